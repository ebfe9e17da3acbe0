/- The reference's Coverage. -/
import Derived.Test.YtjflgkadagkllaaP1
set_option maxRecDepth 100000
set_option linter.unusedVariables false
namespace Go.Proofs.Ytjflgkadagkllaa
open Go Go.Eng Go.RowKit

abbrev ow16 (l : List Int) : Chunk := .own 47 Int inferInstance 1 hE l
theorem ow16e {a b : List Int} (h : a = b) : ow16 a = ow16 b := by rw [h]
theorem rowO_succ (d : List Int) (p n : Nat) : rowO d p (n + 1) = rowO d p n ++ [wo d (p + 2 * n)] := by
  unfold rowO; rw [List.range_succ, List.map_append]; rfl
set_option maxHeartbeats 1000000 in
theorem rcov_c (b : List Int) (a g : Int) (hB : Byt b) (hb : b.length ≤ 1000000) (ha : -10000000 ≤ a ∧ a ≤ 10000000) (v : Value) (w : World) (hv : Rd w v 1 bE b) :
    Calls Try.prog 69 #[v, .int .i64 a, .int .i64 g] w (CovR b a g w) := by
  refine calls_exec (cf := cf) cfok (fn := Try.f69) Try.func69 rfl [.sl 0, .v (.int .i64 a), .v (.int .i64 g)] [.rd Int inferInstance 1 bE b] (ρ := fun _ => v) (· < w.heap.size) rfl rfl rfl (by simp [svOkL, svOk]) (memRd (fun _ h => h) ⟨hv, trivial⟩) ?_
  have eaw : IntKind.i64.wrap a = a := i64_id _ (by omega) (by omega)
  refine Or.inl ⟨.bool (!outR b a 4), fun ρ S w hm => all_c b a 4 (by omega) eaw _ w (hm.rd 0 rfl rfl), ?_⟩
  refine And.intro (fun h => ?_) (fun h => ?_)
  · have h : (!(!outR b a 4)) = true := h
    rw [Bool.not_not] at h
    exact fun ρ S w' hi => .inl ⟨by unfold covX; rw [if_pos h], rfl, hi.below⟩
  have h : (!(!outR b a 4)) = false := h
  rw [Bool.not_not] at h
  obtain ⟨h0, _, h4⟩ := outR_iff.1 h
  have hd := hB.drop a.toNat
  have hd4 := hd.drop 4
  have hdd4 : (b.drop a.toNat).drop 4 = b.drop (a + 4).toNat := by rw [List.drop_drop, show (a + 4).toNat = a.toNat + 4 from by omega]
  have hc : covX b a g = if w2 (b.drop a.toNat) 0 = 1 then (if outR b (a + 4) (2 * w2 (b.drop a.toNat) 2) then none else cov1 (b.drop a.toNat) g (w2 (b.drop a.toNat) 2).toNat)
      else if w2 (b.drop a.toNat) 0 = 2 then (if outR b (a + 4) (6 * w2 (b.drop a.toNat) 2) then none else cov2 ((b.drop a.toNat).drop 4) g (w2 (b.drop a.toNat) 2).toNat)
      else none := by unfold covX; rw [if_neg (by rw [h]; decide), wd_w2 hd, wd_w2 hd]
  have hw2 : IntKind.i64.wrap (a + 2) = a + ((2 : Nat) : Int) := i64_id _ (by omega) (by omega)
  have hw4 : IntKind.i64.wrap (a + 4) = a + ((4 : Nat) : Int) := i64_id _ (by omega) (by omega)
  refine Or.inl ⟨.int .i64 (w2 (b.drop a.toNat) 2), fun ρ S w hm => rw_c b a _ 2 hB hb h0 (by omega) hw2 _ w (hm.rd 0 rfl rfl), ?_⟩
  refine Or.inl ⟨.int .i64 (w2 (b.drop a.toNat) 0), fun ρ S w hm => rw_c b a _ 0 hB hb h0 (by omega) (by simp) _ w (hm.rd 0 rfl rfl), ?_⟩
  have hn := w2_range hd 2
  obtain ⟨d, hdd⟩ : ∃ d, d = b.drop a.toNat := ⟨_, rfl⟩
  rw [← hdd] at hc hn hd hd4 hdd4 ⊢
  obtain ⟨N, hN⟩ : ∃ N : Nat, N = (w2 d 2).toNat := ⟨_, rfl⟩
  have hNw : w2 d 2 = (N : Int) := by omega
  rw [hNw] at hc ⊢
  rw [Int.toNat_natCast] at hc
  have n2 : IntKind.i64.wrap (2 * (N : Int)) = 2 * (N : Int) := i64_id _ (by omega) (by omega)
  have fin : ∀ l : List Int, (decide ((l.length : Int) = 0) || decide ((l.length : Int) > 65535)) = false → finC l = some l := fun l h => by
    rw [Bool.or_eq_false_iff, decide_eq_false_iff_not, decide_eq_false_iff_not] at h
    unfold finC; rw [if_pos ⟨by omega, by omega⟩]
  have finN : ∀ l : List Int, (decide ((l.length : Int) = 0) || decide ((l.length : Int) > 65535)) = true → finC l = none := fun l h => by
    rw [Bool.or_eq_true, decide_eq_true_iff, decide_eq_true_iff] at h
    unfold finC; rw [if_neg (by omega)]
  refine And.intro (fun h1 => ?_) (fun h1 => ?_)
  · have h1 : w2 d 0 = 1 := of_decide_eq_true h1
    rw [if_pos h1] at hc
    refine Or.inl ⟨.bool (!outR b (a + 4) (2 * (N : Int))), fun ρ S w hm => all_q b (a + 4) _ _ _ hb ⟨by omega, by omega⟩ hw4 n2 _ w (hm.rd 0 rfl rfl), ?_⟩
    refine And.intro (fun h => ?_) (fun h => ?_)
    · have h : (!(!outR b (a + 4) (2 * (N : Int)))) = true := h
      rw [Bool.not_not] at h
      exact fun ρ S w' hi => .inl ⟨by rw [hc, if_pos h], rfl, hi.below⟩
    have h : (!(!outR b (a + 4) (2 * (N : Int)))) = false := h
    rw [Bool.not_not] at h
    obtain ⟨_, _, hlen⟩ := outR_iff.1 h
    rw [h, if_neg (by decide)] at hc
    unfold cov1 at hc
    have hb1 : ∀ i, i < N → ok1 g (rowO d 4 N) i = false → covX b a g = none := fun i hi he => by
      rw [hc, if_neg (fun hall => by rw [hall i hi] at he; cases he)]
    refine ⟨{ i : Nat // i ≤ N ∧ ∀ j, j < i → ok1 g (rowO d 4 N) j = true }, fun i => ⟨124, [⟨0, [], .sl 0⟩, ⟨1, [], .v (.int .i64 a)⟩, ⟨2, [], .v (.int .i64 g)⟩, ⟨8, [], .v (.int .i64 (N : Int))⟩, ⟨9, [], .sl 1⟩, ⟨10, [], .v (.int .i64 (i.1 : Nat))⟩], [.rd Int inferInstance 1 bE b, ow16 (rowO d 4 i.1)], [], dropL nats 2⟩, fun i => N - i.1, ⟨[0, 1000], ⟨0, by omega, fun j h => absurd h (by omega)⟩, ?_⟩, fun i => ?_⟩
    · exact And.intro (And.intro rfl (And.intro rfl (And.intro rfl (And.intro rfl (And.intro rfl (And.intro rfl trivial)))))) (And.intro rfl (And.intro rfl trivial))
    obtain ⟨i, hi, hall⟩ := i
    refine And.intro (fun hlt => ?_) (fun hge => ?_)
    rotate_left
    · have hge : i = N := by
        have : ¬ ((i : Nat) : Int) < ((N : Nat) : Int) := of_decide_eq_false hge
        omega
      subst hge
      rw [if_pos (fun i hi => hall i hi)] at hc
      refine And.intro (fun h2 => ?_) (fun h2 => ?_)
      · have h2 := finN (rowO d 4 i) h2
        exact fun ρ S w' hi => .inl ⟨by rw [hc, h2], rfl, hi.below⟩
      · have h2 := fin (rowO d 4 i) h2
        exact fun ρ S w' hi => .inr ⟨_, _, by rw [hc, h2], rfl, hi.below, hi.fresh 1 flatH rfl rfl⟩
    have hlt : i < N := by
      have : ((i : Nat) : Int) < ((N : Nat) : Int) := of_decide_eq_true hlt
      omega
    have w2i : IntKind.i64.wrap (2 * (i : Int)) = 2 * (i : Int) := i64_id _ (by omega) (by omega)
    have wi : IntKind.i64.wrap (IntKind.i64.wrap (a + 4) + IntKind.i64.wrap (2 * (i : Int))) = a + ((4 + 2 * i : Nat) : Int) := by rw [w2i, hw4, i64_id _ (by omega) (by omega)]; omega
    refine Or.inl ⟨.int .i64 (wo d (4 + 2 * i)), fun ρ S w hm => rw_x b a _ (4 + 2 * i) _ (by rw [wo_w2 hd, hdd]) hB hb h0 (by omega) wi _ w (hm.rd 0 rfl rfl), ?_⟩
    have hln : (rowO d 4 i).length = i := rowO_len _ _ _
    have bp : decide ((i : Int) > 0) = true → 0 ≤ IntKind.i64.wrap ((i : Int) - 1) ∧ IntKind.i64.wrap ((i : Int) - 1) < ((rowO d 4 i).length : Int) := fun h => by
      have h : (i : Int) > 0 := of_decide_eq_true h
      rw [i64_id _ (by omega) (by omega), hln]; omega
    refine And.intro (fun h15 _ => bp h15) ?_
    have hr := wo_range d (4 + 2 * i)
    have hx : ∀ x : Bool, (decide (wo d (4 + 2 * i) ≥ g) || (decide ((i : Int) > 0) && decide (wo d (4 + 2 * i) ≤ IntKind.i64.wrap (nth (rowO d 4 i) (IntKind.i64.wrap ((i : Int) - 1)).toNat)))) = x → ok1 g (rowO d 4 N) i = !x := fun x hx => by
      subst hx
      unfold ok1
      rw [rowO_nth _ _ _ _ hlt]
      by_cases hz : (i : Int) > 0
      · have hr2 := wo_range d (4 + 2 * (i - 1))
        rw [i64_id ((i : Int) - 1) (by omega) (by omega), show ((i : Int) - 1).toNat = i - 1 from by omega, rowO_nth _ _ _ _ (by omega), rowO_nth _ _ _ _ (by omega), i64_id _ (by omega) (by omega)]
      · rw [decide_eq_false hz]; rfl
    refine And.intro (fun hb2 => ?_) (fun hb2 => ?_)
    · exact fun ρ S w' hi => .inl ⟨hb1 i hlt (hx true hb2), rfl, hi.below⟩
    refine ⟨[IntKind.u16.wrap (wo d (4 + 2 * i))], ⟨rfl, rfl, fun y hy => rfl⟩, ?_, ?_⟩
    · show ((rowO d 4 i).length + 1) * 2 ≤ _
      rw [hln]; omega
    exact ⟨[0, 3], ⟨i + 1, hlt, fun j hj => by
      by_cases he : j = i
      · rw [he]; exact hx false hb2
      · exact hall j (by omega)⟩, And.intro (And.intro rfl (And.intro rfl (And.intro rfl (And.intro rfl (And.intro rfl (And.intro (svI (i64_succ i (by omega))) trivial)))))) (And.intro rfl (And.intro (ow16e (by rw [rowO_succ, u16w hr])) trivial)), by show N - (i + 1) < N - i; omega⟩
  have h1 : ¬ w2 d 0 = 1 := of_decide_eq_false h1
  rw [if_neg h1] at hc
  refine And.intro (fun h2 => ?_) (fun h2 => ?_)
  rotate_left
  · have h2 : ¬ w2 d 0 = 2 := of_decide_eq_false h2
    rw [if_neg h2] at hc
    refine And.intro (fun _ => ?_) (fun h => by cases h)
    exact fun ρ S w' hi => .inl ⟨hc, rfl, hi.below⟩
  have h2 : w2 d 0 = 2 := of_decide_eq_true h2
  rw [if_pos h2] at hc
  refine Or.inl ⟨.bool (!outR b (a + 4) (6 * (N : Int)) && allN (sB (b.drop (a + 4).toNat) g) N), fun ρ S w hm => ranges_c b (a + 4) g _ _ N hB hb (by omega) (by omega) (by omega) rfl hw4 _ w (hm.rd 0 rfl rfl), ?_⟩
  rw [← hdd4]
  have h6 : 0 ≤ a + 4 := by omega
  refine And.intro (fun h => ?_) (fun h => ?_)
  · have h : (!(!outR b (a + 4) (6 * (N : Int)) && allN (sB (d.drop 4) g) N)) = true := h
    refine fun ρ S w' hi => .inl ⟨?_, rfl, hi.below⟩
    rw [hc]
    by_cases ho : outR b (a + 4) (6 * (N : Int)) = true
    · rw [if_pos ho]
    · rw [if_neg ho]
      unfold cov2
      rw [if_neg]
      intro hall
      have ho : outR b (a + 4) (6 * (N : Int)) = false := by rw [Bool.not_eq_true] at ho; exact ho
      rw [ho, allN_true] at h
      · cases h
      · intro j hj
        have := hall j hj
        unfold ok2 at this
        rw [Bool.and_eq_true, Bool.not_eq_true'] at this
        exact this.1
  have h : (!(!outR b (a + 4) (6 * (N : Int)) && allN (sB (d.drop 4) g) N)) = false := h
  rw [Bool.not_eq_false', Bool.and_eq_true, Bool.not_eq_true'] at h
  obtain ⟨ho, hall⟩ := h
  have hsB := allN_of hall
  obtain ⟨_, _, hlen⟩ := outR_iff.1 ho
  rw [ho, if_neg (by decide)] at hc
  unfold cov2 at hc
  obtain ⟨D, hD⟩ : ∃ D, D = d.drop 4 := ⟨_, rfl⟩
  rw [← hD] at hc hsB hd4 hdd4
  have hb2 : ∀ i, i < N → ok2 D g i = false → covX b a g = none := fun i hi he => by
    rw [hc, if_neg (fun hall => by rw [hall i hi] at he; cases he)]
  refine ⟨{ i : Nat // i ≤ N ∧ ∀ j, j < i → ok2 D g j = true }, fun i => ⟨124, [⟨0, [], .sl 0⟩, ⟨1, [], .v (.int .i64 a)⟩, ⟨8, [], .v (.int .i64 (N : Int))⟩, ⟨9, [], .sl 1⟩, ⟨12, [], .v (.int .i64 (i.1 : Nat))⟩], [.rd Int inferInstance 1 bE b, ow16 (accL D i.1)], [], dropL nats 2⟩, fun i => N - i.1, ⟨[0, 1000], ⟨0, by omega, fun j h => absurd h (by omega)⟩, ?_⟩, fun i => ?_⟩
  · exact And.intro (And.intro rfl (And.intro rfl (And.intro rfl (And.intro rfl (And.intro rfl trivial))))) (And.intro rfl (And.intro rfl trivial))
  obtain ⟨i, hi, hall2⟩ := i
  refine And.intro (fun hlt => ?_) (fun hge => ?_)
  rotate_left
  · have hge : i = N := by
      have : ¬ ((i : Nat) : Int) < ((N : Nat) : Int) := of_decide_eq_false hge
      omega
    subst hge
    rw [if_pos (fun i hi => hall2 i hi)] at hc
    refine And.intro (fun h2 => ?_) (fun h2 => ?_)
    · have h2 := finN (accL D i) h2
      exact fun ρ S w' hi => .inl ⟨by rw [hc, h2], rfl, hi.below⟩
    · have h2 := fin (accL D i) h2
      exact fun ρ S w' hi => .inr ⟨_, _, by rw [hc, h2], rfl, hi.below, hi.fresh 1 flatH rfl rfl⟩
  have hlt : i < N := by
    have : ((i : Nat) : Int) < ((N : Nat) : Int) := of_decide_eq_true hlt
    omega
  have hacl := accL_len D i
  have w6i : IntKind.i64.wrap (6 * (i : Int)) = 6 * (i : Int) := i64_id _ (by omega) (by omega)
  have hw4' : IntKind.i64.wrap (a + 4) = a + 4 := hw4
  have hw6' : IntKind.i64.wrap (a + 6) = a + 6 := i64_id _ (by omega) (by omega)
  have hw8' : IntKind.i64.wrap (a + 8) = a + 8 := i64_id _ (by omega) (by omega)
  have w4 : IntKind.i64.wrap (IntKind.i64.wrap (a + 4) + IntKind.i64.wrap (6 * (i : Int))) = (a + 4) + ((6 * i : Nat) : Int) := by rw [w6i, hw4', i64_id _ (by omega) (by omega)]; omega
  have w6 : IntKind.i64.wrap (IntKind.i64.wrap (a + 6) + IntKind.i64.wrap (6 * (i : Int))) = (a + 4) + ((6 * i + 2 : Nat) : Int) := by rw [w6i, hw6', i64_id _ (by omega) (by omega)]; omega
  have w8 : IntKind.i64.wrap (IntKind.i64.wrap (a + 8) + IntKind.i64.wrap (6 * (i : Int))) = (a + 4) + ((6 * i + 4 : Nat) : Int) := by rw [w6i, hw8', i64_id _ (by omega) (by omega)]; omega
  refine Or.inl ⟨.int .i64 (sT D i), fun ρ S w hm => rw_x b (a + 4) _ (6 * i + 4) _ (by rw [sT_w2 hd4, hdd4]) hB hb h6 (by omega) w8 _ w (hm.rd 0 rfl rfl), ?_⟩
  refine And.intro (fun ht => ?_) (fun ht => ?_)
  · have ht : (!decide (sT D i = ((accL D i).length : Int))) = true := ht
    rw [Bool.not_eq_true'] at ht
    exact fun ρ S w' hi => .inl ⟨hb2 i hlt (by unfold ok2; rw [ht, Bool.and_false]), rfl, hi.below⟩
  have ht : (!decide (sT D i = ((accL D i).length : Int))) = false := ht
  rw [Bool.not_eq_false'] at ht
  have hok : ok2 D g i = true := by unfold ok2; rw [ht, hsB i hlt]; rfl
  refine Or.inl ⟨.int .i64 (sF D i), fun ρ S w hm => rw_x b (a + 4) _ (6 * i) _ (by rw [sF_w2 hd4, hdd4]) hB hb h6 (by omega) w4 _ w (hm.rd 0 rfl rfl), ?_⟩
  have hF : 0 ≤ sF D i ∧ sF D i ≤ 65535 := wd_range D (6 * i)
  have hL : 0 ≤ sL D i ∧ sL D i ≤ 65535 := wd_range D (6 * i + 2)
  have hFL : sF D i ≤ sL D i := by
    have := hsB i hlt
    unfold sB at this
    rw [Bool.or_eq_false_iff, Bool.or_eq_false_iff, decide_eq_false_iff_not] at this
    omega
  have hacc : accL D (i + 1) = accL D i ++ rangeW (sF D i) (sL D i + 1 - sF D i).toNat := rfl
  refine ⟨{ t : Nat // sF D i + t ≤ sL D i + 1 }, fun t => ⟨124, [⟨0, [], .sl 0⟩, ⟨1, [], .v (.int .i64 a)⟩, ⟨8, [], .v (.int .i64 (N : Int))⟩, ⟨9, [], .sl 1⟩, ⟨12, [], .v (.int .i64 (i : Nat))⟩, ⟨13, [], .v (.int .i64 (sF D i + (t.1 : Int)))⟩], [.rd Int inferInstance 1 bE b, ow16 (accL D i ++ rangeW (sF D i) t.1)], [], dropL nats 2⟩, fun t => (sL D i + 1 - sF D i).toNat - t.1, ⟨[0, 1], ⟨0, by omega⟩, ?_⟩, fun t => ?_⟩
  · exact And.intro (And.intro rfl (And.intro rfl (And.intro rfl (And.intro rfl (And.intro rfl (And.intro (svI (by simp)) trivial)))))) (And.intro rfl (And.intro (ow16e (by rw [show rangeW (sF D i) 0 = [] from rfl, List.append_nil])) trivial))
  obtain ⟨t, ht2⟩ := t
  have ht2 : sF D i + (t : Int) ≤ sL D i + 1 := ht2
  refine Or.inl ⟨.int .i64 (sL D i), fun ρ S w hm => rw_x b (a + 4) _ (6 * i + 2) _ (by rw [sL_w2 hd4, hdd4]) hB hb h6 (by omega) w6 _ w (hm.rd 0 rfl rfl), ?_⟩
  refine And.intro (fun hlt2 => ?_) (fun hge2 => ?_)
  · have hlt2 : sF D i + (t : Int) ≤ sL D i := of_decide_eq_true hlt2
    have hnx : IntKind.i64.wrap (sF D i + (t : Int) + 1) = sF D i + ((t + 1 : Nat) : Int) := by rw [i64_id _ (by omega) (by omega)]; omega
    refine ⟨[IntKind.u16.wrap (sF D i + (t : Int))], ⟨rfl, rfl, fun y hy => rfl⟩, ?_, ?_⟩
    · show ((accL D i ++ rangeW (sF D i) t).length + 1) * 2 ≤ _
      rw [List.length_append, rangeW_len]; omega
    · exact ⟨[0, 3], ⟨t + 1, by show sF D i + ((t + 1 : Nat) : Int) ≤ sL D i + 1; omega⟩, And.intro (And.intro rfl (And.intro rfl (And.intro rfl (And.intro rfl (And.intro rfl (And.intro (svI hnx) trivial)))))) (And.intro rfl (And.intro (ow16e (by rw [rangeW_succ, ← List.append_assoc])) trivial)), by show _ - (t + 1) < _ - t; omega⟩
  · have hge2 : ¬ sF D i + (t : Int) ≤ sL D i := of_decide_eq_false hge2
    have hte : t = (sL D i + 1 - sF D i).toNat := by omega
    exact ⟨[0, 1], ⟨i + 1, hlt, fun j hj => by
      by_cases he : j = i
      · rw [he]; exact hok
      · exact hall2 j (by omega)⟩, And.intro (And.intro rfl (And.intro rfl (And.intro rfl (And.intro rfl (And.intro (svI (i64_succ i (by omega))) trivial))))) (And.intro rfl (And.intro (ow16e (by show accL D i ++ rangeW (sF D i) t = accL D (i + 1); rw [hacc, hte])) trivial)), by show N - (i + 1) < N - i; omega⟩
end Go.Proofs.Ytjflgkadagkllaa
