/- cover.Coverage walked. -/
import Derived.Test.YtalploampmdemaaR5
namespace Go.Proofs.Ytalploampmdemaa
open Go Go.Eng Go.RowKit

noncomputable def rest8 : Code := (findLabel (match (Try.f80.body.getD .skip) with | .seq _ (.scope b) => b | _ => .skip) 0).getD .skip
/-- what Coverage hands back -/
def CovR (b : List Int) (at' g : Int) (w : World) (e : Ending) (w' : World) : Prop :=
  (covX b at' g = none ∧ e = .returned (.tuple #[.slice none 0 0, .int .i64 50]) ∧ Below w.heap.size w w') ∨
  ∃ l u, covX b at' g = some l ∧ e = .returned (.tuple #[u, .int .i64 0]) ∧ Below w.heap.size w w' ∧ Fresh w w' u 31 1 hE l
theorem flatH : FlatE hE := ⟨fun n => [.int .u16 n], fun _ => rfl⟩

set_option maxHeartbeats 1000000 in
theorem cov_c (b : List Int) (at' g : Int) (hb : b.length ≤ 1000000) (ha : IntKind.i64.wrap at' = at') (v : Value) (w : World) (hv : Rdr w v b) :
    Calls Try.prog 80 #[v, .int .i64 at', .int .i64 g] w (CovR b at' g w) := by
  obtain ⟨k, o, rfl⟩ := hv.val
  refine calls_exec (cf := cf) cfok (fn := Try.f80) Try.func80 rfl [.bx 0 0, .v (.int .i64 at'), .v (.int .i64 g)] [.rp [] (rdD b)] (ρ := fun _ => .pointer (some ⟨k, o, none⟩)) (· < w.heap.size) rfl rfl rfl (by simp [svOkL, svOk]) (memRd (fun _ h => h) ⟨hv, trivial⟩) ?_
  refine Or.inr ⟨0, rest8, { _u : Unit // covX b at' g = none }, fun _ => ⟨113, [], [.rp [] (rdD b)], [], dropL nats 1⟩, fun _ => 0, by kernel_rfl, ?_, fun i => good_of_exec cfok rfl ?_⟩
  rotate_left
  · exact fun ρ S w' hi => .inl ⟨i.2, rfl, hi.below⟩
  have fin : ∀ l : List Int, (decide ((l.length : Int) > 0) && decide ((l.length : Int) ≤ 65535)) = true → finC l = some l := fun l h => by
    rw [Bool.and_eq_true, decide_eq_true_iff, decide_eq_true_iff] at h
    unfold finC; rw [if_pos ⟨by omega, by omega⟩]
  have finN : ∀ l : List Int, (decide ((l.length : Int) > 0) && decide ((l.length : Int) ≤ 65535)) = false → finC l = none := fun l h => by
    rw [Bool.and_eq_false_iff, decide_eq_false_iff_not, decide_eq_false_iff_not] at h
    unfold finC; rw [if_neg (by omega)]
  refine Or.inl ⟨_, fun ρ S w hm => room_w b at' 4 _ _ hb ha rfl rfl _ w (hm.rp 0 rfl rfl), ?_⟩
  refine And.intro (fun h => ?_) (fun h => ?_)
  · have h : (!roomF b at' 4) = true := h
    unfold roomF at h
    rw [Bool.not_not] at h
    refine ⟨rfl, [0], ⟨(), by unfold covX; rw [if_pos h]⟩, And.intro trivial ⟨⟨rfl, rfl⟩, trivial⟩⟩
  have h : (!roomF b at' 4) = false := h
  unfold roomF at h
  rw [Bool.not_not] at h
  obtain ⟨h0, _, h4⟩ := outR_iff.1 h
  have hc : covX b at' g = if wd (b.drop at'.toNat) 0 = 1 then (if outR b (at' + 4) (2 * wd (b.drop at'.toNat) 2) then none else cov1 (b.drop at'.toNat) g (wd (b.drop at'.toNat) 2).toNat)
      else if wd (b.drop at'.toNat) 0 = 2 then (if outR b (at' + 4) (6 * wd (b.drop at'.toNat) 2) then none else cov2 ((b.drop at'.toNat).drop 4) g (wd (b.drop at'.toNat) 2).toNat)
      else none := by unfold covX; rw [if_neg (by rw [h]; decide)]
  have hw2 : IntKind.i64.wrap (at' + 2) = at' + 2 := i64_id _ (by omega) (by omega)
  have hw4 : IntKind.i64.wrap (at' + 4) = at' + 4 := i64_id _ (by omega) (by omega)
  refine Or.inl ⟨_, fun ρ S w hm => word_w b at' _ 2 hb h0 (by omega) hw2 _ w (hm.rp 0 rfl rfl), ?_⟩
  refine Or.inl ⟨_, fun ρ S w hm => word_w b at' _ 0 hb h0 (by omega) (by simp) _ w (hm.rp 0 rfl rfl), ?_⟩
  have hdd : b.drop (at' + 4).toNat = (b.drop at'.toNat).drop 4 := by rw [List.drop_drop, show (at' + 4).toNat = at'.toNat + 4 from by omega]
  generalize hd : b.drop at'.toNat = d at *
  have hn := wd_range d 2
  have hnw := wd_i64 d 2
  have hn2 : IntKind.i64.wrap (2 * IntKind.i64.wrap (wd d 2)) = 2 * wd d 2 := by rw [hnw]; exact i64_id _ (by omega) (by omega)
  have hn6 : IntKind.i64.wrap (6 * IntKind.i64.wrap (wd d 2)) = 6 * wd d 2 := by rw [hnw]; exact i64_id _ (by omega) (by omega)
  refine And.intro (fun h1 => ?_) (fun h1 => ?_)
  · have h1 : wd d 0 = 1 := of_decide_eq_true h1
    rw [if_pos h1] at hc
    refine Or.inl ⟨_, fun ρ S w hm => room_w b (at' + 4) (2 * wd d 2) _ _ hb hw4 hw4 hn2 _ w (hm.rp 0 rfl rfl), ?_⟩
    refine And.intro (fun h => ?_) (fun h => ?_)
    · have h : (!roomF b (at' + 4) (2 * wd d 2)) = true := h
      unfold roomF at h
      rw [Bool.not_not] at h
      exact ⟨rfl, [0], ⟨(), by rw [hc, if_pos h]⟩, And.intro trivial ⟨⟨rfl, rfl⟩, trivial⟩⟩
    have h : (!roomF b (at' + 4) (2 * wd d 2)) = false := h
    unfold roomF at h
    rw [Bool.not_not] at h
    rw [if_neg (by rw [h]; decide)] at hc
    have hnn : IntKind.i64.wrap (wd d 2) = ((wd d 2).toNat : Int) := by rw [hnw]; omega
    refine Or.inr (lcall_fresh (rowO d 4 (wd d 2).toNat) (fun ρ S w hm => by
      have := words_w b at' _ _ 4 (wd d 2).toNat hb h0 hw4 hnn (by rw [Int.toNat_of_nonneg hn.1]; exact h) _ w (hm.rp 0 rfl rfl)
      rw [hd] at this
      exact this) ?_)
    unfold cov1 at hc
    have hlen := rowO_len d 4 (wd d 2).toNat
    have hrg : ∀ i, i < (wd d 2).toNat → 0 ≤ nth (rowO d 4 (wd d 2).toNat) i ∧ nth (rowO d 4 (wd d 2).toNat) i ≤ 65535 := fun i hi => by rw [rowO_nth _ _ _ _ hi]; exact wo_range _ _
    have hb1 : ∀ i, i < (wd d 2).toNat → ok1 g (rowO d 4 (wd d 2).toNat) i = false → covX b at' g = none := fun i hi he => by
      rw [hc, if_neg (fun hall => by rw [hall i hi] at he; cases he)]
    generalize rowO d 4 (wd d 2).toNat = l at *
    generalize hN : (wd d 2).toNat = N at *
    refine ⟨{ i : Nat // i ≤ l.length ∧ ∀ j, j < i → ok1 g l j = true }, fun i => ⟨113, [⟨0, [], .bx 0 0⟩, ⟨2, [], .v (.int .i64 g)⟩, ⟨8, [], .bx 1 0⟩, ⟨40, [], .sl 2⟩, ⟨41, [], .v (.int .i64 l.length)⟩, ⟨42, [], .v (.int .i64 (i.1 : Int))⟩], [.rp [] (rdD b), .bx 58 [.sl 2], .own 31 Int inferInstance 1 hE l], [], dropL nats 3⟩,
      fun i => l.length - i.1, ⟨[0, 1, 2], ⟨0, Nat.zero_le _, fun j hj => absurd hj (Nat.not_lt_zero _)⟩, ?_⟩, fun i => ?_⟩
    · exact And.intro (And.intro rfl (And.intro rfl (And.intro rfl (And.intro rfl (And.intro rfl (And.intro rfl trivial)))))) (And.intro ⟨rfl, rfl⟩ (And.intro (And.intro rfl rfl) (And.intro rfl trivial)))
    obtain ⟨i, hi, hall⟩ := i
    refine And.intro (fun hlt => ?_) (fun hge => ?_)
    · have hlt : i < l.length := by have : (i : Int) < (l.length : Int) := of_decide_eq_true hlt
                                    omega
      refine And.intro (show (0 : Int) ≤ (i : Int) ∧ (i : Int) < (l.length : Int) from ⟨by omega, by omega⟩) ?_
      have hp : (0 : Int) < i → IntKind.i64.wrap ((i : Int) - 1) = (i : Int) - 1 := fun h => i64_id _ (by omega) (by omega)
      refine And.intro (fun g1 g2 => ?_) ?_
      · have g1 : (i : Int) > 0 := of_decide_eq_true g1
        refine (show (0 : Int) ≤ IntKind.i64.wrap ((i : Int) - 1) ∧ IntKind.i64.wrap ((i : Int) - 1) < (l.length : Int) from ?_)
        rw [hp g1]; omega
      have hx : ∀ x : Bool, (decide (IntKind.i64.wrap (nth l (i : Int).toNat) ≥ g) || (decide ((i : Int) > 0) && decide (nth l (i : Int).toNat ≤ nth l (IntKind.i64.wrap ((i : Int) - 1)).toNat))) = x → ok1 g l i = !x := fun x hx => by
        subst hx
        unfold ok1
        have := hrg i (by omega)
        rw [Int.toNat_natCast, i64_id (nth l i) (by omega) (by omega)]
        by_cases hz : (i : Int) > 0
        · rw [hp hz, show ((i : Int) - 1).toNat = i - 1 from by omega]
        · rw [decide_eq_false hz]; rfl
      refine And.intro (fun hb2 => ?_) (fun hb2 => ?_)
      · exact ⟨rfl, [0], ⟨(), hb1 i (by omega) (hx true hb2)⟩, And.intro trivial ⟨⟨rfl, rfl⟩, trivial⟩⟩
      · exact ⟨[0, 1, 2], ⟨i + 1, hlt, fun j hj => by
          by_cases e : j = i
          · subst e; exact hx false hb2
          · exact hall j (by omega)⟩, And.intro (And.intro rfl (And.intro rfl (And.intro rfl (And.intro rfl (And.intro rfl (And.intro (svI (i64_succ i (by omega))) trivial)))))) (And.intro ⟨rfl, rfl⟩ (And.intro (And.intro rfl rfl) (And.intro rfl trivial))), by show _ - (i + 1) < _ - i; omega⟩
    · have hge : i = l.length := by have : ¬ (i : Int) < (l.length : Int) := of_decide_eq_false hge
                                    omega
      subst hge
      refine And.intro (fun h2 => ?_) (fun h2 => ?_)
      · have h2 := fin l h2
        exact fun ρ S w' hi => .inr ⟨l, _, by rw [hc, if_pos (fun i hi => hall i (by omega)), h2], rfl, hi.below, hi.fresh 2 flatH rfl rfl⟩
      · have h2 := finN l h2
        exact fun ρ S w' hi => .inl ⟨by rw [hc, if_pos (fun i hi => hall i (by omega)), h2], rfl, hi.below⟩
  have h1 : ¬ wd d 0 = 1 := of_decide_eq_false h1
  rw [if_neg h1] at hc
  refine And.intro (fun h2 => ?_) (fun h2 => ?_)
  rotate_left
  · have h2 : ¬ wd d 0 = 2 := of_decide_eq_false h2
    rw [if_neg h2] at hc
    refine And.intro (fun h => by cases h) (fun _ => ?_)
    exact fun ρ S w' hi => .inl ⟨hc, rfl, hi.below⟩
  have h2 : wd d 0 = 2 := of_decide_eq_true h2
  rw [if_pos h2] at hc
  refine Or.inl ⟨_, fun ρ S w hm => room_w b (at' + 4) (6 * wd d 2) _ _ hb hw4 hw4 hn6 _ w (hm.rp 0 rfl rfl), ?_⟩
  refine And.intro (fun h => ?_) (fun h => ?_)
  · have h : (!roomF b (at' + 4) (6 * wd d 2)) = true := h
    unfold roomF at h
    rw [Bool.not_not] at h
    exact ⟨rfl, [0], ⟨(), by rw [hc, if_pos h]⟩, And.intro trivial ⟨⟨rfl, rfl⟩, trivial⟩⟩
  have h : (!roomF b (at' + 4) (6 * wd d 2)) = false := h
  unfold roomF at h
  rw [Bool.not_not] at h
  rw [if_neg (by rw [h]; decide)] at hc
  have hnn : IntKind.i64.wrap (wd d 2) = ((wd d 2).toNat : Int) := by rw [hnw]; omega
  obtain ⟨h60, _, h64⟩ := outR_iff.1 h
  have hN : (wd d 2).toNat ≤ 65535 := by omega
  have h64' : at' + 4 + 6 * ((wd d 2).toNat : Int) ≤ b.length := by omega
  unfold cov2 at hc
  generalize hNN : (wd d 2).toNat = N at *
  refine Or.inr (lcall_fnRps 89 [[.v (.int .i64 (IntKind.i64.wrap (wd d 2)))], [.ptr (rdD b)], [.v (.int .i64 (IntKind.i64.wrap (at' + 4)))], [.v (.int .i64 g)]] (fun ρ S w hm => spans_c b _ _ g _ w S hm.lt (hm.rpS 0 rfl rfl)) ?_)
  have hG := sG_le (d.drop 4) g N
  have hNb : sN (d.drop 4) g N ≤ N := by unfold sN; split <;> omega
  refine ⟨sN (d.drop 4) g N, fun j => [.v (sV (d.drop 4) g j)], 2, [⟨8, [], .bx 1 0⟩], { j : Nat // j ≤ sN (d.drop 4) g N ∧ ∀ i, i < j → ok2 (d.drop 4) g i = true }, fun j => [.rp [] (rdD b), .bx 58 [.sl 2], .own 31 Int inferInstance 1 hE (accL (d.drop 4) j.1)], fun j => j.1,
    fun ρ S w hm => ?_, fun j => rfl, rfl, rfl, fun j => rfl, fun j => rfl, rfl, rfl, ⟨[0, 1, 1000], ⟨0, Nat.zero_le _, fun i hi => absurd hi (Nat.not_lt_zero _)⟩, rfl, ?_⟩, ?_, ?_⟩
  · have := spans_w b (at' + 4) g _ _ N hb (by omega) h64' hw4 hnn _ _ _ _ w S hm.lt (hm.rpS 2 rfl rfl) (hm.rpS 3 rfl rfl) (hm.rpS 4 rfl rfl) (hm.rpS 5 rfl rfl)
    rw [hdd] at this
    exact this
  · exact And.intro (And.intro rfl trivial) (And.intro ⟨rfl, rfl⟩ (And.intro (And.intro rfl rfl) (And.intro rfl trivial)))
  · rintro ⟨j, hj, hall⟩ hlt
    have hlt : j < sN (d.drop 4) g N := hlt
    show putPsK _ [.v (sV (d.drop 4) g j)] _ _ _
    have hnone : ok2 (d.drop 4) g j = false → covX b at' g = none := fun he => by rw [hc, if_neg (fun ha => by rw [ha j (by omega)] at he; cases he)]
    cases hbd : sB (d.drop 4) g j with
    | true =>
      have e : sV (d.drop 4) g j = .agg #[.int .i64 (-1), .int .i64 0, .int .i64 0] := by unfold sV; rw [hbd, if_pos rfl]
      rw [e]
      refine And.intro (fun _ => ?_) (fun h => by cases h)
      exact ⟨rfl, [0], ⟨(), hnone (by unfold ok2; rw [hbd]; rfl)⟩, And.intro trivial ⟨⟨rfl, rfl⟩, trivial⟩⟩
    | false =>
      have e : sV (d.drop 4) g j = .agg #[.int .i64 (sF (d.drop 4) j), .int .i64 (sL (d.drop 4) j), .int .i64 (sT (d.drop 4) j)] := by unfold sV; rw [hbd, if_neg (by decide)]
      rw [e]
      have hF := wd_range (d.drop 4) (6 * j)
      have hL := wd_range (d.drop 4) (6 * j + 2)
      have hal := accL_len (d.drop 4) j
      have hx : ∀ x : Bool, (decide (sF (d.drop 4) j < 0) || !decide (sT (d.drop 4) j = ((accL (d.drop 4) j).length : Int))) = x → ok2 (d.drop 4) g j = !x := fun x hx => by
        subst hx
        unfold ok2
        rw [hbd, decide_eq_false (by unfold sF; omega : ¬ sF (d.drop 4) j < 0)]
        simp
      refine And.intro (fun h => ?_) (fun h => ?_)
      · exact ⟨rfl, [0], ⟨(), hnone (hx true h)⟩, And.intro trivial ⟨⟨rfl, rfl⟩, trivial⟩⟩
      have hok : ok2 (d.drop 4) g j = true := hx false h
      have hacc : accL (d.drop 4) (j + 1) = accL (d.drop 4) j ++ rangeW (sF (d.drop 4) j) (sL (d.drop 4) j + 1 - sF (d.drop 4) j).toNat := rfl
      have hFL : sF (d.drop 4) j ≤ sL (d.drop 4) j := by
        unfold sB at hbd
        rw [Bool.or_eq_false_iff, Bool.or_eq_false_iff, decide_eq_false_iff_not] at hbd
        omega
      have hF : 0 ≤ sF (d.drop 4) j ∧ sF (d.drop 4) j ≤ 65535 := hF
      have hL : 0 ≤ sL (d.drop 4) j ∧ sL (d.drop 4) j ≤ 65535 := hL
      generalize hfF : sF (d.drop 4) j = F at *
      generalize hfL : sL (d.drop 4) j = L at *
      generalize sT (d.drop 4) j = T at *
      generalize hac : accL (d.drop 4) j = ac at *
      refine ⟨{ t : Nat // F + t ≤ L + 1 }, fun t => ⟨113, [⟨8, [], .bx 1 0⟩, ⟨12, [], .bx 3 0⟩, ⟨13, [], .v (.int .i64 (F + (t.1 : Int)))⟩], [.rp [] (rdD b), .bx 58 [.sl 2], .own 31 Int inferInstance 1 hE (ac ++ rangeW F t.1), .bx 174 [.v (.int .i64 F), .v (.int .i64 L), .v (.int .i64 T)]], [], dropL nats 4⟩,
        fun t => (L + 1 - F).toNat - t.1, ⟨[0, 1, 2, 3], ⟨0, by omega⟩, ?_⟩, fun t => ?_⟩
      · exact And.intro (And.intro rfl (And.intro rfl (And.intro (svI (by simp)) trivial))) (And.intro ⟨rfl, rfl⟩ (And.intro (And.intro rfl rfl) (And.intro (by show Chunk.own _ _ _ _ _ ac = Chunk.own _ _ _ _ _ (ac ++ rangeW F 0); rw [show rangeW F 0 = [] from rfl, List.append_nil]) (And.intro (And.intro rfl rfl) trivial))))
      obtain ⟨t, ht⟩ := t
      have ht : F + (t : Int) ≤ L + 1 := ht
      refine And.intro (fun hlt => ?_) (fun hge => ?_)
      · have hlt : F + (t : Int) ≤ L := of_decide_eq_true hlt
        have hnx : IntKind.i64.wrap (F + (t : Int) + 1) = F + ((t + 1 : Nat) : Int) := by rw [i64_id _ (by omega) (by omega)]; omega
        refine ⟨[IntKind.u16.wrap (F + (t : Int))], And.intro rfl (And.intro rfl (fun y hy => rfl)), ?_, ?_⟩
        · show ((ac ++ rangeW F t).length + 1) * 2 ≤ _
          rw [List.length_append, rangeW_len]; omega
        · exact ⟨[0, 1, 5, 3], ⟨t + 1, by show F + ((t + 1 : Nat) : Int) ≤ L + 1; omega⟩, And.intro (And.intro rfl (And.intro rfl (And.intro (svI hnx) trivial))) (And.intro ⟨rfl, rfl⟩ (And.intro (And.intro rfl rfl) (And.intro (by rw [rangeW_succ, ← List.append_assoc]; rfl) (And.intro (And.intro rfl rfl) trivial)))), by show _ - (t + 1) < _ - t; omega⟩
      · have hge : ¬ F + (t : Int) ≤ L := of_decide_eq_false hge
        have hte : t = (L + 1 - F).toNat := by omega
        exact ⟨[0, 1, 2], ⟨j + 1, hlt, fun i hi => by
          by_cases e : i = j
          · subst e; exact hok
          · exact hall i (by omega)⟩, rfl, And.intro (And.intro rfl trivial) (And.intro ⟨rfl, rfl⟩ (And.intro (And.intro rfl rfl) (And.intro (show Chunk.own _ _ _ _ _ (ac ++ rangeW F t) = Chunk.own _ _ _ _ _ (accL (d.drop 4) (j + 1)) by rw [hacc, hte]) trivial)))⟩
  · rintro ⟨j, hj, hall⟩ he
    have he : j = sN (d.drop 4) g N := he
    have hjN : j = N := by
      rcases Nat.lt_or_ge (sG (d.drop 4) g N) N with h3 | h3
      · have : sN (d.drop 4) g N = sG (d.drop 4) g N + 1 := by unfold sN; rw [if_pos h3]
        have h4 := hall (sG (d.drop 4) g N) (by omega)
        unfold ok2 at h4
        rw [sG_bad _ _ _ h3] at h4
        cases h4
      · rw [he]; unfold sN; rw [if_neg (by omega)]
    rw [hjN] at hall
    rw [if_pos hall] at hc
    have hl : accL (d.drop 4) j = accL (d.drop 4) N := by rw [hjN]
    refine And.intro (fun h2 => ?_) (fun h2 => ?_)
    · have h2 := fin _ h2
      rw [hl] at h2
      exact fun ρ S w' hi => .inr ⟨_, _, by rw [hc, h2], rfl, hi.below, by rw [← hl]; exact hi.fresh 2 flatH rfl rfl⟩
    · have h2 := finN _ h2
      rw [hl] at h2
      exact fun ρ S w' hi => .inl ⟨by rw [hc, h2], rfl, hi.below⟩
end Go.Proofs.Ytalploampmdemaa
