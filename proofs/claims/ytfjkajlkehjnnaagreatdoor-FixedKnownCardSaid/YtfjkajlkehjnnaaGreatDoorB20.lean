/- The reference's Read. -/
import Derived.Test.YtfjkajlkehjnnaaGreatDoorB19
import Derived.Test.YtfjkajlkehjnnaaGreatDoorG13
set_option maxRecDepth 100000
set_option linter.unusedVariables false
namespace Go.Proofs.YtfjkajlkehjnnaaGreatDoor
open Go Go.Eng Go.RowKit Go.Ar

def dsV (l : List Nat) : Nat := l.foldl (fun a d => a * 10 + d) 0
theorem dsV_snoc (l : List Nat) (d : Nat) : dsV (l ++ [d]) = dsV l * 10 + d := by unfold dsV; rw [List.foldl_append]; rfl
theorem dsV_lt : ∀ {l : List Nat}, (∀ x ∈ l, x < 10) → ∀ i, i ≤ l.length → dsV (l.take i) < 10 ^ i
  | l, h, 0, _ => by simp [dsV]
  | l, h, i + 1, hi => by
    rw [List.take_succ_eq_append_getElem hi, dsV_snoc, Nat.pow_succ]
    have h1 := dsV_lt h i (by omega)
    have h2 := h l[i] (List.getElem_mem _)
    omega
theorem rGo_facts : ∀ (body : List UInt8) (ds : List Nat) (b : Int) (ds' : List Nat) (b' : Int), rGo body ds b = some (ds', b') → (∀ x ∈ ds, x < 10) → -1 ≤ b → b ≤ ds.length →
    (∀ x ∈ ds', x < 10) ∧ ds'.length ≤ ds.length + body.length ∧ -1 ≤ b' ∧ b' ≤ ds'.length
  | [], ds, b, ds', b', e, h, h1, h2 => by
    rw [rGo] at e
    obtain ⟨rfl, rfl⟩ := Prod.mk.inj (Option.some.inj e)
    exact ⟨h, by simp, h1, h2⟩
  | c :: r, ds, b, ds', b', e, h, h1, h2 => by
    rw [rGo] at e
    split at e
    · rename_i hd
      have hd2 : 48 ≤ c.toNat ∧ c.toNat ≤ 57 := by simpa [isDig] using hd
      obtain ⟨a1, a2, a3, a4⟩ := rGo_facts r _ _ ds' b' e (by
        intro x hx
        rcases List.mem_append.1 hx with hx | hx
        · exact h x hx
        · rw [List.mem_singleton.1 hx]; omega) (by split <;> omega) (by rw [List.length_append]; split <;> simp <;> omega)
      exact ⟨a1, by rw [List.length_append] at a2; simp at a2 ⊢; omega, a3, a4⟩
    · split at e
      · obtain ⟨a1, a2, a3, a4⟩ := rGo_facts r _ _ ds' b' e h (by omega) (by omega)
        exact ⟨a1, by simp; omega, a3, a4⟩
      · cases e
theorem body_len (l : List UInt8) : (bodyF l).length ≤ l.length := by
  unfold bodyF; split
  · rw [List.length_drop]; omega
  · exact Nat.le_refl _
theorem rightF_facts (l : List UInt8) : (∀ x ∈ (rightF l).2.1, x < 10) ∧ (rightF l).2.1.length ≤ 40 ∧ 0 ≤ (rightF l).2.2.1 ∧ (rightF l).2.2.1 ≤ (rightF l).2.1.length := by
  by_cases h : l.length > 40
  · unfold rightF; rw [if_pos h]; simp
  · cases e : rGo (bodyF l) [] (-1) with
    | none => rw [rightF_none h e]; simp
    | some p =>
      obtain ⟨ds, b⟩ := p
      rw [rightF_some h e]
      obtain ⟨a1, a2, a3, a4⟩ := rGo_facts _ _ _ _ _ e (by simp) (by omega) (by simp)
      have := body_len l
      simp only [List.length_nil] at a2
      exact ⟨a1, by show ds.length ≤ 40; omega, by show 0 ≤ max b 0; omega, by show max b 0 ≤ ((ds.length : Nat) : Int); omega⟩

def refReadF (l : List UInt8) : Int × Int :=
  if (rightF l).2.2.2 = false then (0, 2)
  else
    let N := dsV (rightF l).2.1 * 65536
    let D := 10 ^ (rightF l).2.2.1.toNat
    sgnF (N / D + (if 2 * (N % D) < D then 0 else 1)) (rightF l).1

structure RR (ds : List Nat) (m : Nat) where
  i : Nat
  hi : i ≤ ds.length
  xs : List Nat
  ys : List Nat
  hx : Dg xs
  hy : Dg ys
  lx : xs.length ≤ 20
  ly : ys.length ≤ 20
  vx : val xs = dsV (ds.take i)
  vy : val ys = 10 ^ (i - m)
theorem p40 {v n : Nat} (h : v < 10 ^ n) (hn : n ≤ 42) : v < R ^ 20 := by
  have h1 : 10 ^ n ≤ 10 ^ 42 := Nat.pow_le_pow_right (by decide) hn
  have h2 : 10 ^ 42 < R ^ 20 := by decide
  omega
theorem dg10 : Dg [10] := fun x h => by rw [List.mem_singleton.1 h]; decide
def RR.times {ds : List Nat} {m : Nat} (s : RR ds m) (hd : ∀ x ∈ ds, x < 10) (h40 : ds.length ≤ 40) (hlt : s.i < ds.length) (hm : s.i < m) : RR ds m :=
  ⟨s.i + 1, hlt, toL (val s.xs * 10 + nth ds s.i), s.ys, dg_toL _, s.hy, toL_len (by
    have h1 := dsV_lt hd (s.i + 1) hlt
    rw [List.take_succ_eq_append_getElem hlt, dsV_snoc, ← s.vx] at h1
    have e : nth ds s.i = ds[s.i] := by unfold nth; rw [List.getD_eq_getElem?_getD, List.getElem?_eq_getElem hlt]; rfl
    rw [e]
    exact p40 h1 (by omega)), s.ly, by
    have e : nth ds s.i = ds[s.i] := by unfold nth; rw [List.getD_eq_getElem?_getD, List.getElem?_eq_getElem hlt]; rfl
    rw [val_toL, s.vx, e, List.take_succ_eq_append_getElem hlt, dsV_snoc], by rw [s.vy, show s.i - m = 0 by omega, show s.i + 1 - m = 0 by omega]⟩
def RR.both {ds : List Nat} {m : Nat} (s : RR ds m) (hd : ∀ x ∈ ds, x < 10) (h40 : ds.length ≤ 40) (hlt : s.i < ds.length) (hm : m ≤ s.i) : RR ds m :=
  ⟨s.i + 1, hlt, toL (val s.xs * 10 + nth ds s.i), toL (val s.ys * 10), dg_toL _, dg_toL _, toL_len (by
    have h1 := dsV_lt hd (s.i + 1) hlt
    rw [List.take_succ_eq_append_getElem hlt, dsV_snoc, ← s.vx] at h1
    have e : nth ds s.i = ds[s.i] := by unfold nth; rw [List.getD_eq_getElem?_getD, List.getElem?_eq_getElem hlt]; rfl
    rw [e]
    exact p40 h1 (by omega)), toL_len (by
      rw [s.vy, ← Nat.pow_succ]
      exact p40 (n := s.i - m + 2) (Nat.pow_lt_pow_right (by decide) (by omega)) (by omega)), by
    have e : nth ds s.i = ds[s.i] := by unfold nth; rw [List.getD_eq_getElem?_getD, List.getElem?_eq_getElem hlt]; rfl
    rw [val_toL, s.vx, e, List.take_succ_eq_append_getElem hlt, dsV_snoc], by rw [val_toL, s.vy, ← Nat.pow_succ, show s.i + 1 - m = s.i - m + 1 by omega]⟩

theorem refRead_c (l : List UInt8) (hl : l.length ≤ 1000) (w : World) : Calls Tryz.prog 23 #[.string (bs l)] w fun e w' =>
    e = .returned (.tuple #[.int .i64 (refReadF l).1, .int .i64 (refReadF l).2]) ∧ Below w.heap.size w w' := by
  refine calls_exec (cf := cf) cfok (fn := Tryz.f23) Tryz.func23 rfl [.v (.string (bs l))] [] (ρ := fun _ => undef) (· < w.heap.size) rfl rfl rfl (by simp [svOkL, svOk]) (memNil fun _ h => h) ?_
  refine Or.inr (lcall_sub [] (right_s l hl) rfl rfl rfl rfl rfl trivial ?_)
  obtain ⟨fd, f40, fb, fbl⟩ := rightF_facts l
  obtain ⟨⟨neg, ds, behind, ok⟩, hr⟩ : ∃ r, r = rightF l := ⟨_, rfl⟩
  have hF : refReadF l = if ok = false then (0, 2) else sgnF (dsV ds * 65536 / 10 ^ behind.toNat + (if 2 * (dsV ds * 65536 % 10 ^ behind.toNat) < 10 ^ behind.toNat then 0 else 1)) neg := by
    unfold refReadF
    rw [← hr]
  rw [hF]
  clear hF
  rw [← hr] at fd f40 fb fbl ⊢
  clear hr
  have fd : ∀ x ∈ ds, x < 10 := fd
  have f40 : ds.length ≤ 40 := f40
  have fb : 0 ≤ behind := fb
  have fbl : behind ≤ ds.length := fbl
  cases ok with
  | false =>
    refine And.intro (fun _ => ?_) (fun h => by cases h)
    exact fun ρ S w' hi => ⟨rfl, hi.below⟩
  | true =>
    refine And.intro (fun h => by cases h) (fun _ => ?_)
    rw [if_neg (by decide)]
    obtain ⟨k, rfl⟩ : ∃ k : Nat, behind = (k : Int) := ⟨behind.toNat, by omega⟩
    rw [Int.toNat_natCast]
    have hk : k ≤ ds.length := by omega
    refine ⟨RR ds (ds.length - k), fun s => ⟨68, [⟨4, [], .v (.bool neg)⟩, ⟨5, [], .sl 0⟩, ⟨6, [], .v (.int .i64 (k : Nat))⟩, ⟨8, [], .sl 1⟩, ⟨9, [], .sl 2⟩, ⟨10, [], .v (.int .i64 (s.i : Nat))⟩], [owI ds, owU s.xs, owU s.ys], [], dropL nats 3⟩, fun s => ds.length - s.i, ⟨[0, 1, 2], ⟨0, Nat.zero_le _, [0], [1], fun x h => by rw [List.mem_singleton.1 h]; decide, fun x h => by rw [List.mem_singleton.1 h]; decide, by decide, by decide, rfl, by rw [Nat.zero_sub]; rfl⟩, ?_⟩, fun s => ?_⟩
    · exact And.intro (And.intro rfl (And.intro rfl (And.intro rfl (And.intro rfl (And.intro rfl (And.intro rfl trivial)))))) (And.intro rfl (And.intro ⟨rfl, rfl, rfl, rfl, by simp⟩ (And.intro ⟨rfl, rfl, rfl, rfl, by simp⟩ trivial)))
    have hsi := s.hi
    have hmu : ∀ a : Nat, a = s.i + 1 → s.i < ds.length → ds.length - a < ds.length - s.i := by omega
    refine And.intro (fun hlt => ?_) (fun hge => ?_)
    · have hlt : s.i < ds.length := by
        have : (s.i : Int) < ((ds.length : Nat) : Int) := of_decide_eq_true hlt
        omega
      have hnd : nth ds s.i < 10 := by
        unfold nth; rw [List.getD_eq_getElem?_getD, List.getElem?_eq_getElem hlt]; exact fd _ (List.getElem_mem _)
      have lx := s.lx
      have ly := s.ly
      have ew : IntKind.u32.wrap ((nth ds s.i : Nat) : Int) = ((nth ds s.i : Nat) : Int) := u32i (by simp only [B]; omega)
      refine Or.inr (Or.inr (Or.inl ⟨[0, 3, 4, 5, 6, 7, 1, 2, 8, 9], [1, 2, 8], [], by kernel_rfl, ?_⟩))
      refine And.intro ⟨by omega, by omega⟩ ?_
      refine mcall_fresh (t := 77) (sz := 1) (enc := uE) (toL (val s.xs * 10)) (fun ρ S w hm => by
        have h := times_c s.xs [10] (ρ 1) (ρ 3) w s.hx dg10 (by omega) (by decide) (hm.own 1 rfl rfl) (hm.raw (enc := uE) 3 rfl rfl [10] [DV.v (.int .u32 10)] rfl rfl rfl (fun _ _ => rfl))
        exact h) ?_
      refine mcall_fresh (t := 77) (sz := 1) (enc := uE) (toL (val s.xs * 10 + nth ds s.i)) (fun ρ S w hm => by
        have h := plus_c (toL (val s.xs * 10)) (nth ds s.i) (ρ 4) w (dg_toL _) (by omega) (by
          have := toL_len (n := val s.xs * 10) (k := 21) (by
            have h1 := val_lt s.hx
            have h2 : R ^ s.xs.length ≤ R ^ 20 := Nat.pow_le_pow_right (by decide) lx
            have h3 : R ^ 20 * 10 ≤ R ^ 21 := by decide
            omega)
          omega) (hm.own 4 rfl rfl)
        rw [val_toL] at h
        show Calls _ 45 #[ρ 4, .int .u32 (IntKind.u32.wrap ((nth ds ((s.i : Nat) : Int).toNat : Nat) : Int))] _ _
        rw [Int.toNat_natCast, ew]
        exact h) ?_
      refine And.intro (fun hge => ?_) (fun hlo => ?_)
      · have hge : ds.length - k ≤ s.i := by
          have : (s.i : Int) ≥ IntKind.i64.wrap (((ds.length : Nat) : Int) - ((k : Nat) : Int)) := of_decide_eq_true hge
          rw [IntWalk.i64_in _ ⟨by omega, by omega⟩] at this
          omega
        refine Or.inr (lcall_fresh (t := 77) (sz := 1) (enc := uE) (toL (val s.ys * 10)) (fun ρ S w hm => by
          have h := times_c s.ys [10] (ρ 2) (ρ 6) w s.hy dg10 (by omega) (by decide) (hm.own 2 rfl rfl) (hm.raw (enc := uE) 6 rfl rfl [10] [DV.v (.int .u32 10)] rfl rfl rfl (fun _ _ => rfl))
          exact h) ?_)
        exact ⟨[0, 5, 7], s.both fd f40 hlt hge, And.intro (And.intro rfl (And.intro rfl (And.intro rfl (And.intro rfl (And.intro rfl (And.intro (svI (i64_succ s.i (by omega))) trivial)))))) (And.intro rfl (And.intro rfl (And.intro rfl trivial))), hmu _ rfl hlt⟩
      · have hlo : s.i < ds.length - k := by
          have : ¬ (s.i : Int) ≥ IntKind.i64.wrap (((ds.length : Nat) : Int) - ((k : Nat) : Int)) := of_decide_eq_false hlo
          rw [IntWalk.i64_in _ ⟨by omega, by omega⟩] at this
          omega
        exact ⟨[0, 5, 2], s.times fd f40 hlt hlo, And.intro (And.intro rfl (And.intro rfl (And.intro rfl (And.intro rfl (And.intro rfl (And.intro (svI (i64_succ s.i (by omega))) trivial)))))) (And.intro rfl (And.intro rfl (And.intro rfl trivial))), hmu _ rfl hlt⟩
    · have hge : s.i = ds.length := by
        have : ¬ (s.i : Int) < ((ds.length : Nat) : Int) := of_decide_eq_false hge
        omega
      have vx := s.vx
      have vy := s.vy
      have lx := s.lx
      have ly := s.ly
      rw [hge, List.take_length] at vx
      rw [hge, show ds.length - (ds.length - k) = k by omega] at vy
      obtain ⟨N, hN⟩ : ∃ N, N = dsV ds := ⟨_, rfl⟩
      obtain ⟨D, hD⟩ : ∃ D, D = 10 ^ k := ⟨_, rfl⟩
      have hN20 : N < R ^ 20 := by
        have := dsV_lt fd ds.length (Nat.le_refl _)
        rw [List.take_length] at this
        rw [hN]; exact p40 this (by omega)
      have hD20 : D < R ^ 20 := by rw [hD]; exact p40 (n := k + 1) (Nat.pow_lt_pow_right (by decide) (by omega)) (by omega)
      have hD0 : 0 < D := by rw [hD]; exact Nat.pow_pos (by decide)
      rw [← hN] at vx
      rw [← hD] at vy
      rw [← hN, ← hD]
      have hR20 : R ^ 20 * 65536 = R ^ 21 := by decide
      have hR21 : R ^ 21 * 2 ≤ R ^ 22 := by decide
      have len22 : ∀ v, v < R ^ 22 → (toL v).length ≤ 1000 := fun v hv => Nat.le_trans (toL_len hv) (by decide)
      have hM : N * 65536 < R ^ 21 := by omega
      refine Or.inr (lcall_fresh (t := 77) (sz := 1) (enc := uE) (toL (N * 65536)) (fun ρ S w hm => by
        have h := times_c s.xs [0, 1] (ρ 1) (ρ 3) w s.hx (fun x h => by simp at h; rcases h with rfl | rfl <;> decide) (by omega) (by decide) (hm.own 1 rfl rfl) (hm.raw (enc := uE) 3 rfl rfl [0, 1] [DV.v (.int .u32 0), DV.v (.int .u32 1)] rfl rfl rfl (fun _ _ => rfl))
        rw [vx] at h
        exact h) ?_)
      have hdv := divide_l (toL (N * 65536)) s.ys (dg_toL _) s.hy (len22 _ (by omega)) (by omega) (by rw [vy]; exact hD0)
      rw [val_toL, vy] at hdv
      refine Or.inr (lcall_sub [4, 2] hdv rfl rfl rfl rfl rfl (And.intro rfl (And.intro rfl trivial)) ?_)
      obtain ⟨Q, hQ⟩ : ∃ Q, Q = N * 65536 / D := ⟨_, rfl⟩
      obtain ⟨M, hM2⟩ : ∃ M, M = N * 65536 % D := ⟨_, rfl⟩
      rw [← hQ, ← hM2]
      have hMD : M < D := by rw [hM2]; exact Nat.mod_lt _ hD0
      have hQl : Q ≤ N * 65536 := by rw [hQ]; exact Nat.div_le_self _ _
      refine Or.inr (lcall_fresh (t := 77) (sz := 1) (enc := uE) (toL (2 * M + 0)) (fun ρ S w hm => by
        have h := double_c (toL M) 0 (ρ 6) w (dg_toL _) (by decide) (Nat.le_trans (len22 _ (by omega)) (by decide)) (hm.own 6 rfl rfl)
        rw [val_toL] at h
        exact h) ?_)
      refine Or.inl ⟨.bool (decide (2 * M + 0 < D)), fun ρ S w hm => by
        have h := less_c (toL (2 * M + 0)) s.ys (ρ 7) (ρ 2) w (dg_toL _) s.hy (Nat.le_trans (len22 _ (by omega)) (by decide)) (by omega) (hm.own 7 rfl rfl) (hm.own 2 rfl rfl)
        rw [val_toL, vy] at h
        exact h, ?_⟩
      refine And.intro (fun hu => ?_) (fun hu => ?_)
      · have hu : ¬ 2 * M < D := by
          intro hh
          have : (!decide (2 * M + 0 < D)) = true := hu
          rw [decide_eq_true (by omega)] at this
          exact absurd this (by decide)
        rw [if_neg hu]
        refine Or.inr (lcall_fresh (toL (Q + 1)) (fun ρ S w hm => by
          have h := plusOne_c (toL Q) (ρ 5) w (dg_toL _) (Nat.le_trans (len22 _ (by omega)) (by decide)) (hm.own 5 rfl rfl)
          rw [val_toL] at h
          exact h) ?_)
        refine Or.inl ⟨.tuple #[.int .i64 (sgnF (Q + 1) neg).1, .int .i64 (sgnF (Q + 1) neg).2], fun ρ S w hm => by
          have h := number_c (toL (Q + 1)) neg (ρ 8) w (dg_toL _) (Nat.le_trans (len22 _ (by omega)) (by decide)) (hm.own 8 rfl rfl)
          rw [val_toL] at h
          exact h, ?_⟩
        exact fun ρ S w' hi => ⟨rfl, hi.below⟩
      · have hu : 2 * M < D := by
          have : (!decide (2 * M + 0 < D)) = false := hu
          rw [Bool.not_eq_false'] at this
          have := of_decide_eq_true this
          omega
        rw [if_pos hu]
        refine Or.inl ⟨.tuple #[.int .i64 (sgnF (Q + 0) neg).1, .int .i64 (sgnF (Q + 0) neg).2], fun ρ S w hm => by
          have h := number_c (toL Q) neg (ρ 5) w (dg_toL _) (Nat.le_trans (len22 _ (by omega)) (by decide)) (hm.own 5 rfl rfl)
          rw [val_toL] at h
          exact h, ?_⟩
        exact fun ρ S w' hi => ⟨rfl, hi.below⟩
end Go.Proofs.YtfjkajlkehjnnaaGreatDoor
