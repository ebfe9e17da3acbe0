/- The reference's numbers: times. -/
import Derived.Test.YtfjkajlkehjnnaaGreatDoorG11
namespace Go.Proofs.YtfjkajlkehjnnaaGreatDoor
open Go Go.Eng Go.RowKit Go.Ar

theorem dvE {a b : Int} (h : a = b) : [DV.v (.int .u32 a)] = [DV.v (.int .u32 b)] := by rw [h]
theorem nthSet (xs : List Nat) (k j x : Nat) (h : k < xs.length) : nth (xs.set k x) j = if j = k then x else nth xs j := by
  unfold nth
  rw [List.getD_eq_getElem?_getD, List.getD_eq_getElem?_getD, List.getElem?_set]
  by_cases e : k = j
  · subst e; simp [h]
  · simp [e, Ne.symm e]
/-- a row of products: a number times one digit is added -/
structure TIn (xs ys : List Nat) (i : Nat) where
  j : Nat
  hj : j ≤ ys.length
  out : List Nat
  c : Nat
  hc : c < R
  hl : out.length = xs.length + ys.length
  hd : Dg out
  hv : val out + R ^ (i + j) * c = val (xs.take i) * val ys + R ^ i * nth xs i * val (ys.take j)
  hz : ∀ k, i + ys.length ≤ k → nth out k = 0
structure TOut (xs ys : List Nat) where
  i : Nat
  hi : i ≤ xs.length
  out : List Nat
  hl : out.length = xs.length + ys.length
  hd : Dg out
  hv : val out = val (xs.take i) * val ys
  hz : ∀ k, i + ys.length ≤ k → nth out k = 0
theorem nth_zeros (n k : Nat) : nth (List.replicate n 0) k = 0 := by
  unfold nth
  rw [List.getD_eq_getElem?_getD]
  by_cases h : k < n
  · simp [List.getElem?_replicate, h]
  · simp [List.getElem?_replicate, h]
def TOut.start (xs ys : List Nat) : TOut xs ys := ⟨0, by omega, List.replicate (xs.length + ys.length) 0, by simp, dg_zeros _, by rw [val_zeros]; simp [val], fun k _ => nth_zeros _ k⟩
def TOut.inn {xs ys : List Nat} (s : TOut xs ys) : TIn xs ys s.i := ⟨0, by omega, s.out, 0, by decide, s.hl, s.hd, by rw [s.hv]; simp [val], s.hz⟩
theorem prodB {o a b c : Nat} (ho : o < R) (ha : a < R) (hb : b < R) (hc : c < R) : o + a * b + c < R * R := by
  have h1 : a * b ≤ (R - 1) * (R - 1) := Nat.mul_le_mul (by omega) (by omega)
  have h2 : (R - 1) * (R - 1) = 4294836225 := by decide
  have h3 : R * R = 4294967296 := by decide
  have h4 : R = 65536 := rfl
  omega
def TIn.next {xs ys : List Nat} {i : Nat} (hx : Dg xs) (hy : Dg ys) (s : TIn xs ys i) (hi : i < xs.length) (h : s.j < ys.length) : TIn xs ys i where
  j := s.j + 1
  hj := h
  out := s.out.set (i + s.j) ((nth s.out (i + s.j) + nth xs i * nth ys s.j + s.c) % R)
  c := (nth s.out (i + s.j) + nth xs i * nth ys s.j + s.c) / R
  hc := by rw [Nat.div_lt_iff_lt_mul (by decide)]; exact prodB (s.hd.nth _) (hx.nth _) (hy.nth _) s.hc
  hl := by rw [List.length_set]; exact s.hl
  hd := s.hd.set _ (Nat.mod_lt _ (by decide))
  hv := by
    have hv := s.hv
    have hs := val_set s.out (i + s.j) ((nth s.out (i + s.j) + nth xs i * nth ys s.j + s.c) % R) (by rw [s.hl]; omega)
    rw [nth_take_succ ys s.j h, val_snoc, List.length_take, Nat.min_eq_left (Nat.le_of_lt h)]
    generalize hX : nth s.out (i + s.j) + nth xs i * nth ys s.j + s.c = X at *
    have hdm := Nat.div_add_mod X R
    have e : R ^ (i + s.j) * (X % R) + R ^ (i + (s.j + 1)) * (X / R) = R ^ (i + s.j) * X := by
      rw [show i + (s.j + 1) = (i + s.j) + 1 by omega, show R ^ ((i + s.j) + 1) = R ^ (i + s.j) * R from Nat.pow_succ _ _, Nat.mul_assoc, ← Nat.mul_add, Nat.add_comm (X % R), hdm]
    have e2 : R ^ (i + s.j) * X = R ^ (i + s.j) * nth s.out (i + s.j) + R ^ i * nth xs i * (R ^ s.j * nth ys s.j) + R ^ (i + s.j) * s.c := by
      rw [← hX, Nat.mul_add, Nat.mul_add]
      congr 2
      rw [Nat.pow_add]
      simp only [Nat.mul_assoc, Nat.mul_left_comm, Nat.mul_comm]
    rw [Nat.mul_add]
    omega
  hz k hk := by
    rw [nthSet _ _ _ _ (by rw [s.hl]; omega), if_neg (by omega)]
    exact s.hz k hk
def TIn.out' {xs ys : List Nat} {i : Nat} (s : TIn xs ys i) (hi : i < xs.length) (h : s.j = ys.length) : TOut xs ys where
  i := i + 1
  hi := hi
  out := s.out.set (i + ys.length) s.c
  hl := by rw [List.length_set]; exact s.hl
  hd := s.hd.set _ s.hc
  hv := by
    have hv := s.hv
    have hs := val_set s.out (i + ys.length) s.c (by rw [s.hl]; omega)
    rw [s.hz _ (Nat.le_refl _)] at hs
    rw [h, List.take_length] at hv
    rw [nth_take_succ xs i hi, val_snoc, List.length_take, Nat.min_eq_left (Nat.le_of_lt hi), Nat.add_mul]
    omega
  hz k hk := by
    rw [nthSet _ _ _ _ (by rw [s.hl]; omega), if_neg (by omega)]
    exact s.hz k (by omega)
theorem u64c {x : Nat} (h : x < W) : IntKind.u64.wrap (x : Int) = (x : Int) := IntWalk.u64_in _ (by simp only [W] at h; omega)

theorem times_c (xs ys : List Nat) (u v : Value) (w : World) (hx : Dg xs) (hy : Dg ys) (hlx : xs.length ≤ 1000) (hly : ys.length ≤ 1000) (hu : Rd w u 1 uE xs) (hv : Rd w v 1 uE ys) :
    Calls Tryz.prog 46 #[u, v] w fun e w' => ∃ z, e = .returned z ∧ Below w.heap.size w w' ∧ Fresh w w' z 77 1 uE (toL (val xs * val ys)) := by
  refine calls_exec (cf := cf) cfok (fn := Tryz.f46) Tryz.func46 rfl [.sl 0, .sl 1] [rdU xs, rdU ys] (ρ := fun i => if i = 0 then u else v) (· < w.heap.size) rfl rfl rfl (by simp [svOkL, svOk]) (memRd (fun _ h => h) ⟨hu, hv, trivial⟩) ?_
  have hn : IntKind.i64.wrap ((xs.length : Int) + (ys.length : Int)) = ((xs.length + ys.length : Nat) : Int) := by rw [i64_id _ (by omega) (by omega)]; rfl
  refine ⟨Nat, inferInstance, uE, 0, rfl, by rw [hn]; exact Int.natCast_nonneg _, by rw [hn]; show 4 * ((xs.length + ys.length : Nat) : Int) ≤ _; omega, by rw [hn]; omega, rfl, ?_⟩
  refine ⟨TOut xs ys, fun s => ⟨69, [⟨0, [], .sl 0⟩, ⟨1, [], .sl 1⟩, ⟨5, [], .sl 2⟩, ⟨6, [], .v (.int .i64 s.i)⟩], [rdU xs, rdU ys, owU s.out], [], dropL nats 3⟩, fun s => xs.length - s.i, ⟨[0, 1, 2], TOut.start xs ys, ?_⟩, fun s => ?_⟩
  · exact And.intro (And.intro rfl (And.intro rfl (And.intro rfl (And.intro rfl trivial)))) (And.intro rfl (And.intro rfl (And.intro (owEq (by rw [hn]; rfl)) trivial)))
  have hsi := s.hi
  have hso := s.hl
  refine And.intro (fun hlt => ?_) (fun hge => ?_)
  · have hlt : s.i < xs.length := by have : (s.i : Int) < (xs.length : Int) := of_decide_eq_true hlt
                                     omega
    refine ⟨TIn xs ys s.i, fun t => ⟨69, [⟨0, [], .sl 0⟩, ⟨1, [], .sl 1⟩, ⟨5, [], .sl 2⟩, ⟨6, [], .v (.int .i64 s.i)⟩, ⟨7, [], .v (.int .u64 t.c)⟩, ⟨8, [], .v (.int .i64 t.j)⟩], [rdU xs, rdU ys, owU t.out], [], dropL nats 3⟩, fun t => ys.length - t.j, ⟨[0, 1, 2], s.inn, ?_⟩, fun t => ?_⟩
    · exact And.intro (And.intro rfl (And.intro rfl (And.intro rfl (And.intro rfl (And.intro rfl (And.intro rfl trivial)))))) (And.intro rfl (And.intro rfl (And.intro rfl trivial)))
    have htj := t.hj
    have hto := t.hl
    refine And.intro (fun hlt2 => ?_) (fun hge2 => ?_)
    · have hlt2 : t.j < ys.length := by have : (t.j : Int) < (ys.length : Int) := of_decide_eq_true hlt2
                                        omega
      have hij : IntKind.i64.wrap ((s.i : Int) + (t.j : Int)) = ((s.i + t.j : Nat) : Int) := by rw [i64_id _ (by omega) (by omega)]; rfl
      refine Or.inl ⟨by kernel_rfl, ?_⟩
      refine And.intro ⟨by rw [hij]; omega, by rw [hij]; omega⟩ ?_
      refine And.intro ⟨by omega, by omega⟩ ?_
      refine And.intro ⟨by omega, by omega⟩ ?_
      have hp := prodB (t.hd.nth (s.i + t.j)) (hx.nth s.i) (hy.nth t.j) t.hc
      have hRR : R * R = 4294967296 := by decide
      have eX : IntKind.u64.wrap (IntKind.u64.wrap (IntKind.u64.wrap ((nth t.out (IntKind.i64.wrap ((s.i : Int) + (t.j : Int))).toNat : Nat) : Int) + IntKind.u64.wrap (IntKind.u64.wrap ((nth xs s.i : Nat) : Int) * IntKind.u64.wrap ((nth ys t.j : Nat) : Int))) + (t.c : Int)) = ((nth t.out (s.i + t.j) + nth xs s.i * nth ys t.j + t.c : Nat) : Int) := by
        rw [hij, Int.toNat_natCast]
        have r1 : nth t.out (s.i + t.j) < R := t.hd.nth _
        have r2 : nth xs s.i < R := hx.nth _
        have r3 : nth ys t.j < R := hy.nth _
        have hW : W = 18446744073709551616 := rfl
        rw [u64c (Nat.lt_trans r1 (by decide)), u64c (Nat.lt_trans r2 (by decide)), u64c (Nat.lt_trans r3 (by decide)), wmul (by omega), wadd (by omega), wadd (by omega)]
      have hxw : nth t.out (s.i + t.j) + nth xs s.i * nth ys t.j + t.c < W := Nat.lt_trans hp (by decide)
      have eN : IntKind.u32.wrap (bitsV .and .u64 (IntKind.u64.wrap (IntKind.u64.wrap (IntKind.u64.wrap ((nth t.out (IntKind.i64.wrap ((s.i : Int) + (t.j : Int))).toNat : Nat) : Int) + IntKind.u64.wrap (IntKind.u64.wrap ((nth xs s.i : Nat) : Int) * IntKind.u64.wrap ((nth ys t.j : Nat) : Int))) + (t.c : Int))) 65535) = (((nth t.out (s.i + t.j) + nth xs s.i * nth ys t.j + t.c) % R : Nat) : Int) := by
        rw [eX, and16 hxw]
        exact u32i (Nat.lt_trans (Nat.mod_lt _ (by decide)) (by decide : R < B))
      refine And.intro ⟨by rw [hij]; omega, by rw [hij]; omega⟩ ?_
      refine ⟨(nth t.out (s.i + t.j) + nth xs s.i * nth ys t.j + t.c) % R, dvE eN.symm, rfl, ?_⟩
      refine And.intro (show (0 : Int) ≤ 16 by decide) ?_
      exact ⟨[0, 1, 2], t.next hx hy hlt hlt2, And.intro (And.intro rfl (And.intro rfl (And.intro rfl (And.intro rfl (And.intro (svI ((congrArg (fun z => shrV .u64 z 16) eX).trans (shr_n (k := .u64) _ (n := 16) (by decide)))) (And.intro (svI (i64_succ t.j (by omega))) trivial)))))) (And.intro rfl (And.intro rfl (And.intro (owEq (by rw [hij]; rfl)) trivial))), by show _ - (t.j + 1) < _ - t.j; omega⟩
    · have hge2 : t.j = ys.length := by have : ¬ (t.j : Int) < (ys.length : Int) := of_decide_eq_false hge2
                                        omega
      have hij : IntKind.i64.wrap ((s.i : Int) + (ys.length : Int)) = ((s.i + ys.length : Nat) : Int) := by rw [i64_id _ (by omega) (by omega)]; rfl
      refine And.intro ⟨by rw [hij]; omega, by rw [hij]; omega⟩ ?_
      refine ⟨t.c, ?_, rfl, ?_⟩
      · exact dvE (show (t.c : Int) = IntKind.u32.wrap (t.c : Int) from (u32i (Nat.lt_trans t.hc (by decide))).symm)
      exact ⟨[0, 1, 2], t.out' hlt hge2, And.intro (And.intro rfl (And.intro rfl (And.intro rfl (And.intro (svI (i64_succ s.i (by omega))) trivial)))) (And.intro rfl (And.intro rfl (And.intro (owEq (by rw [hij]; rfl)) trivial))), by show _ - (s.i + 1) < _ - s.i; omega⟩
  · have hge : s.i = xs.length := by have : ¬ (s.i : Int) < (xs.length : Int) := of_decide_eq_false hge
                                     omega
    have a1 := s.hv
    rw [hge, List.take_length] at a1
    have a2 := s.hd
    by_cases hn : s.out ≠ [] ∧ nth s.out (s.out.length - 1) = 0
    · refine Or.inr (lcall_sub [2] (trim_cut _ a2 (by omega) hn) rfl rfl rfl rfl rfl (And.intro rfl trivial) ?_)
      rw [a1]
      exact fun ρ S w' hi => ⟨_, rfl, hi.below, hi.fresh 3 uE_flat rfl rfl⟩
    · have hn : s.out ≠ [] → nth s.out (s.out.length - 1) ≠ 0 := fun h1 h2 => hn ⟨h1, h2⟩
      refine Or.inr (lcall_sub [2] (trim_id _ (by omega) hn) rfl rfl rfl rfl rfl (And.intro rfl trivial) ?_)
      refine fun ρ S w' hi => ⟨_, rfl, hi.below, ?_⟩
      rw [← a1, ← toL_of a2 hn]
      exact hi.fresh 2 uE_flat rfl rfl
end Go.Proofs.YtfjkajlkehjnnaaGreatDoor
