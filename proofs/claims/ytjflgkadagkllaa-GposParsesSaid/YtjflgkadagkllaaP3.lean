/- The reference's Lookups. -/
import Derived.Test.YtjflgkadagkllaaP2
set_option maxRecDepth 100000
set_option linter.unusedVariables false
namespace Go.Proofs.Ytjflgkadagkllaa
open Go Go.Eng Go.RowKit

abbrev owTr (xs : List Tab) : Chunk := .own 100 Tab inferInstance 3 tbE xs
theorem owTre {a b : List Tab} (h : a = b) : owTr a = owTr b := by rw [h]
theorem outR_add {b : List Int} {a n : Int} {p : Int} (h0 : 0 ≤ a) (hp : 0 ≤ p) (hn : 0 ≤ n) : outR b a (p + n) = outR b (a + p) n := by
  have e : ∀ x y : Bool, (x = false ↔ y = false) → x = y := fun x y h => by cases x <;> cases y <;> simp_all
  refine e _ _ ?_
  rw [outR_iff, outR_iff]
  omega
theorem wF_in {b : List Int} {a : Int} (h : outR b a 2 = false) : wF b a = w2 (b.drop a.toNat) 0 := by
  unfold wF; rw [h]; rfl
theorem flag_eq {n : Int} (h : 0 ≤ n ∧ n ≤ 15) : IntKind.u16.wrap (IntKind.i64.wrap (IntKind.i64.wrap (n.tdiv 2) * 2)) = flagF n := by
  obtain ⟨k, rfl⟩ : ∃ k : Nat, n = (k : Int) := ⟨n.toNat, by omega⟩
  have hk : k < 16 := by omega
  have : ∀ k : Fin 16, IntKind.u16.wrap (IntKind.i64.wrap (IntKind.i64.wrap (((k.val : Nat) : Int).tdiv 2) * 2)) = flagF ((k.val : Nat) : Int) := by decide
  exact this ⟨k, hk⟩
theorem cells3 {a b c a' b' c' : SV} (h1 : a = a') (h2 : b = b') (h3 : c = c') : [a, b, c] = [a', b', c'] := by rw [h1, h2, h3]
set_option maxHeartbeats 1000000 in
theorem rlook_c (b : List Int) (a : Int) (hB : Byt b) (hb : b.length ≤ 3000) (ha : 0 ≤ a ∧ a ≤ 65535) (v : Value) (w : World) (S : Nat → Prop) (hS : ∀ b, S b → b < w.heap.size) (hv : DRep S w (.sl Int inferInstance 1 bE b) v) :
    Calls Try.prog 45 #[v, .int .i64 a] w (LookR (lookX b a) S w) := by
  refine calls_exec2 (cf := cf) cfok rfl rfl (fn := Try.f45) Try.func45 rfl [.sl 0, .v (.int .i64 a)] [.rd Int inferInstance 1 bE b] (ρ := fun _ => v) (· < w.heap.size) S rfl rfl rfl (by simp [svOkL, svOk]) rfl (memRd hS ⟨hv, trivial⟩) (fun b hb => ⟨hb, rd_own rfl b⟩) ?_
  have bad : lookX b a = none → ∀ w', Below w.heap.size w w' → LookR (lookX b a) S w (.returned (.tuple #[.slice none 0 0, .int .i64 50])) w' := fun h w' hb => by
    rw [h]
    exact ⟨[.slice none 0 0, .int .i64 50], rfl, hb, ⟨DRep.nil, rfl, trivial⟩⟩
  have hwr := wF_range hB a
  have eaw : IntKind.i64.wrap a = a := i64_id _ (by omega) (by omega)
  refine Or.inl ⟨.int .i64 (wF b a), fun ρ S w hm => w_c b a a rfl hB (by omega) eaw _ w (hm.rd 0 rfl rfl), ?_⟩
  refine Or.inl ⟨.bool (!outR b a 2), fun ρ S w hm => all_q b a 2 a 2 (by omega) ⟨by omega, by omega⟩ rfl rfl _ w (hm.rd 0 rfl rfl), ?_⟩
  have e2N : IntKind.i64.wrap (2 + IntKind.i64.wrap (2 * wF b a)) = 2 + 2 * wF b a := by rw [i64_id (2 * wF b a) (by omega) (by omega), i64_id _ (by omega) (by omega)]
  refine Or.inl ⟨.bool (!outR b a (2 + 2 * wF b a)), fun _ ρ S w hm => all_q b a (2 + 2 * wF b a) a _ (by omega) ⟨by omega, by omega⟩ rfl e2N _ w (hm.rd 0 rfl rfl), ?_⟩
  refine And.intro (fun h3 => ?_) (fun h3 => ?_)
  · have h3 : ((!(!outR b a 2) || decide (wF b a > 256)) || !(!outR b a (2 + 2 * wF b a))) = true := h3
    refine fun ρ S' w' hi => bad ?_ w' hi.below
    unfold lookX
    rw [Bool.not_not, Bool.not_not] at h3
    by_cases ho : outR b a 2 = true
    · rw [if_pos ho]
    · rw [if_neg ho]
      rw [Bool.not_eq_true] at ho
      rw [ho, wF_in ho, Bool.false_or, Bool.or_eq_true, decide_eq_true_iff, outR_add ha.1 (by omega) (by rw [← wF_in ho]; omega)] at h3
      have hN : ((lkN b a : Nat) : Int) = w2 (b.drop a.toNat) 0 := by
        have := w2_range (hB.drop a.toNat) 0
        unfold lkN; omega
      rw [if_pos]
      rw [hN]
      rcases h3 with h3 | h3
      · left; omega
      · right; exact h3
  have h3 : ((!(!outR b a 2) || decide (wF b a > 256)) || !(!outR b a (2 + 2 * wF b a))) = false := h3
  rw [Bool.not_not, Bool.not_not, Bool.or_eq_false_iff, Bool.or_eq_false_iff, decide_eq_false_iff_not] at h3
  obtain ⟨⟨ho, h256⟩, ho2⟩ := h3
  have hN : wF b a = ((lkN b a : Nat) : Int) := by
    have := w2_range (hB.drop a.toNat) 0
    rw [wF_in ho]; unfold lkN; omega
  rw [hN] at h256 ho2 ⊢
  rw [outR_add ha.1 (by omega) (by omega)] at ho2
  have hX : lookX b a = if ((List.range (lkN b a)).all fun i => okL b (lkT b a i)) = true then some ((List.range (lkN b a)).map fun i => lkAt b (lkT b a i)) else none := by
    unfold lookX
    rw [if_neg (by rw [ho]; decide), if_neg (fun hh => hh.elim (fun h => by omega) (fun h => by rw [ho2] at h; cases h))]
  have hroom : a + 2 + 2 * (lkN b a : Int) ≤ b.length := (outR_iff.1 ho2).2.2
  obtain ⟨N, hNN⟩ : ∃ N, N = lkN b a := ⟨_, rfl⟩
  rw [← hNN] at hX hroom h256 ⊢
  have badI : ∀ i, i < N → okL b (lkT b a i) = false → lookX b a = none := fun i hi hf => by
    rw [hX, if_neg (fun hall => by
      have := List.all_eq_true.1 hall i (List.mem_range.2 hi)
      rw [hf] at this
      cases this)]
  refine ⟨{ i : Nat // i ≤ N ∧ ∀ j, j < i → okL b (lkT b a j) = true }, fun i => ⟨114, [⟨0, [], .sl 0⟩, ⟨1, [], .v (.int .i64 a)⟩, ⟨6, [], .v (.int .i64 (N : Int))⟩, ⟨7, [], .sl 1⟩, ⟨8, [], .v (.int .i64 (i.1 : Nat))⟩], [.rd Int inferInstance 1 bE b, owTr ((List.range i.1).map fun i => lkAt b (lkT b a i))], [], dropL nats 2⟩, fun i => N - i.1, ⟨[0, 1000], ⟨0, Nat.zero_le _, fun j hj => absurd hj (Nat.not_lt_zero _)⟩, ?_⟩, fun i => ?_⟩
  · exact And.intro (And.intro rfl (And.intro rfl (And.intro rfl (And.intro rfl (And.intro rfl trivial))))) (And.intro rfl (And.intro rfl trivial))
  obtain ⟨i, hi, hall⟩ := i
  refine And.intro (fun hlt => ?_) (fun hge => ?_)
  rotate_left
  · have hge : i = N := by
      have : ¬ ((i : Nat) : Int) < ((N : Nat) : Int) := of_decide_eq_false hge
      omega
    subst hge
    rw [if_pos (List.all_eq_true.2 fun j hj => hall j (List.mem_range.1 hj))] at hX
    rw [hX]
    refine fun ρ S' w' hi => ⟨[den ρ (.sl 1), .int .i64 0], rfl, hi.below, ⟨?_, rfl, trivial⟩⟩
    exact hi.rep 40 (.sl 1) (.sl Tab inferInstance 3 tbE _) rfl rfl
  have hlt : i < N := by
    have : ((i : Nat) : Int) < ((N : Nat) : Int) := of_decide_eq_true hlt
    omega
  have hwt := w2_range (hB.drop a.toNat) (2 + 2 * i)
  have e2i : IntKind.i64.wrap (IntKind.i64.wrap (a + 2) + IntKind.i64.wrap (2 * (i : Int))) = a + ((2 + 2 * i : Nat) : Int) := by rw [i64_id (a + 2) (by omega) (by omega), i64_id (2 * (i : Int)) (by omega) (by omega), i64_id _ (by omega) (by omega)]; omega
  refine Or.inl ⟨.int .i64 (w2 (b.drop a.toNat) (2 + 2 * i)), fun ρ S w hm => rw_c b a _ (2 + 2 * i) hB (by omega) ha.1 (by omega) e2i _ w (hm.rd 0 rfl rfl), ?_⟩
  have eT : IntKind.i64.wrap (a + w2 (b.drop a.toNat) (2 + 2 * i)) = lkT b a i := by
    rw [i64_id _ (by omega) (by omega)]; rfl
  have ht0 : 0 ≤ lkT b a i ∧ lkT b a i ≤ 200000 := by unfold lkT; omega
  have hlast : okL b (lkT b a i) = true → (List.range (i + 1)).map (fun i => lkAt b (lkT b a i)) = (List.range i).map (fun i => lkAt b (lkT b a i)) ++ [lkAt b (lkT b a i)] := fun _ => by rw [List.range_succ, List.map_append]; rfl
  obtain ⟨t, ht⟩ : ∃ t, t = lkT b a i := ⟨_, rfl⟩
  have badT := badI i hlt
  rw [← ht] at ht0 hlast badT eT
  have eTc : ∀ c : Int, 0 ≤ c ∧ c ≤ 10 → IntKind.i64.wrap (IntKind.i64.wrap (a + w2 (b.drop a.toNat) (2 + 2 * i)) + c) = t + c := fun c hc => by rw [eT]; exact i64_id _ (by omega) (by omega)
  have hkr := wF_range hB (t + 4)
  have hfr := wF_range hB (t + 2)
  refine Or.inl ⟨.int .i64 (wF b (t + 4)), fun ρ S w hm => w_c b (t + 4) _ (eTc 4 (by decide)) hB (by omega) (i64_id _ (by omega) (by omega)) _ w (hm.rd 0 rfl rfl), ?_⟩
  refine Or.inl ⟨.int .i64 (wF b (t + 2)), fun ρ S w hm => w_c b (t + 2) _ (eTc 2 (by decide)) hB (by omega) (i64_id _ (by omega) (by omega)) _ w (hm.rd 0 rfl rfl), ?_⟩
  refine Or.inl ⟨.bool (!outR b t 6), fun ρ S w hm => all_q b t 6 _ 6 (by omega) ⟨by omega, by omega⟩ eT rfl _ w (hm.rd 0 rfl rfl), ?_⟩
  have e6k : IntKind.i64.wrap (6 + IntKind.i64.wrap (2 * wF b (t + 4))) = 6 + 2 * wF b (t + 4) := by rw [i64_id (2 * wF b (t + 4)) (by omega) (by omega), i64_id _ (by omega) (by omega)]
  refine Or.inl ⟨.bool (!outR b t (6 + 2 * wF b (t + 4))), fun _ ρ S w hm => all_q b t (6 + 2 * wF b (t + 4)) _ _ (by omega) ⟨by omega, by omega⟩ eT e6k _ w (hm.rd 0 rfl rfl), ?_⟩
  have hokE : ((((!(!outR b t 6) || decide (wF b (t + 4) < 1)) || decide (wF b (t + 4) > 256)) || !(!outR b t (6 + 2 * wF b (t + 4)))) || decide (wF b (t + 2) > 15)) = !okL b t := by
    unfold okL
    cases ho6 : outR b t 6 with
    | true => rfl
    | false =>
      have hr6 := (outR_iff.1 ho6).2.2
      have h4 : wF b (t + 4) = lkK b t := wF_at (p := 4) ht0.1 (by omega)
      have h2 : wF b (t + 2) = w2 (b.drop t.toNat) 2 := wF_at (p := 2) ht0.1 (by omega)
      rw [h4] at hkr ⊢
      rw [h2, outR_add ht0.1 (by omega) (by omega)]
      have hd : decide (w2 (b.drop t.toNat) 2 > 15) = !decide (w2 (b.drop t.toNat) 2 ≤ 15) := by
        by_cases hc : w2 (b.drop t.toNat) 2 ≤ 15
        · rw [decide_eq_true hc, decide_eq_false (by omega)]; rfl
        · rw [decide_eq_false hc, decide_eq_true (by omega)]; rfl
      rw [hd]
      cases decide (lkK b t < 1) <;> cases decide (lkK b t > 256) <;> cases outR b (t + 6) (2 * lkK b t) <;> cases decide (w2 (b.drop t.toNat) 2 ≤ 15) <;> rfl
  refine And.intro (fun h5 => ?_) (fun h5 => ?_)
  · have h5 : (!okL b t) = true := hokE.symm.trans h5
    rw [Bool.not_eq_true'] at h5
    exact fun ρ S' w' hi => bad (badT h5) w' hi.below
  have h5 : (!okL b t) = false := hokE.symm.trans h5
  rw [Bool.not_eq_false'] at h5
  have hok := h5
  unfold okL at h5
  rw [Bool.and_eq_true, Bool.and_eq_true, Bool.and_eq_true, Bool.not_eq_true', Bool.not_eq_true', Bool.not_eq_true', Bool.or_eq_false_iff, decide_eq_false_iff_not, decide_eq_false_iff_not, decide_eq_true_iff] at h5
  obtain ⟨o6, ⟨k1, k2⟩, o2k, f15⟩ := h5
  have hr6 := (outR_iff.1 o6).2.2
  have hrk := (outR_iff.1 o2k).2.2
  have h4 : wF b (t + 4) = lkK b t := wF_at (p := 4) ht0.1 (by omega)
  have h2 : wF b (t + 2) = w2 (b.drop t.toNat) 2 := wF_at (p := 2) ht0.1 (by omega)
  have hw0 := w2_range (hB.drop t.toNat) 0
  have hw2r := w2_range (hB.drop t.toNat) 2
  refine Or.inl ⟨.int .i64 (w2 (b.drop t.toNat) 0), fun ρ S w hm => rw_c b t _ 0 hB (by omega) ht0.1 (by omega) (by rw [eT]; simp) _ w (hm.rd 0 rfl rfl), ?_⟩
  refine And.intro (show (2 : Int) ≠ 0 by omega) ?_
  obtain ⟨K, hK⟩ : ∃ K : Nat, K = (lkK b t).toNat := ⟨_, rfl⟩
  have hKw : lkK b t = (K : Int) := by omega
  have hat : (lkAt b t).at' = (List.range K).map fun j => t + w2 (b.drop t.toNat) (6 + 2 * j) := by unfold lkAt; rw [hK]
  rw [hKw] at hrk k1 k2 h4
  have ety : IntKind.u16.wrap (w2 (b.drop t.toNat) 0) = (lkAt b t).ty := u16w hw0
  have efl : IntKind.u16.wrap (IntKind.i64.wrap (IntKind.i64.wrap ((w2 (b.drop t.toNat) 2).tdiv 2) * 2)) = (lkAt b t).flag := flag_eq ⟨hw2r.1, f15⟩
  refine ⟨{ j : Nat // j ≤ K }, fun j => ⟨114, [⟨0, [], .sl 0⟩, ⟨1, [], .v (.int .i64 a)⟩, ⟨6, [], .v (.int .i64 (N : Int))⟩, ⟨7, [], .sl 1⟩, ⟨8, [], .v (.int .i64 (i : Nat))⟩, ⟨9, [], .v (.int .i64 t)⟩, ⟨10, [], .v (.int .i64 (K : Int))⟩, ⟨12, [], .bx 2 0⟩, ⟨13, [], .v (.int .i64 (j.1 : Nat))⟩], [.rd Int inferInstance 1 bE b, owTr ((List.range i).map fun i => lkAt b (lkT b a i)), .bx 100 [.v (.int .u16 (lkAt b t).ty), .v (.int .u16 (lkAt b t).flag), .sl 3], owZ ((List.range j.1).map fun j => t + w2 (b.drop t.toNat) (6 + 2 * j))], [], dropL nats 4⟩, fun j => K - j.1, ⟨[0, 1, 2, 1000], ⟨0, by omega⟩, ?_⟩, fun j => ?_⟩
  · refine And.intro (And.intro rfl (And.intro rfl (And.intro rfl (And.intro rfl (And.intro rfl (And.intro (svI eT) (And.intro (svI h4) (And.intro rfl (And.intro rfl trivial))))))))) (And.intro rfl (And.intro rfl (And.intro (And.intro rfl ?_) (And.intro rfl trivial))))
    exact cells3 (svI ety) (svI (by rw [h2]; exact efl)) rfl
  obtain ⟨j, hj⟩ := j
  refine And.intro (fun hjl => ?_) (fun hjg => ?_)
  rotate_left
  · have hjg : j = K := by
      have : ¬ ((j : Nat) : Int) < ((K : Nat) : Int) := of_decide_eq_false hjg
      omega
    refine ⟨[lkAt b t], ⟨rfl, by
      show [DV.v (.int .u16 (lkAt b t).ty), DV.v (.int .u16 (lkAt b t).flag), DV.sl Int inferInstance 1 zE ((List.range j).map fun j => t + w2 (b.drop t.toNat) (6 + 2 * j))] = [DV.v (.int .u16 (lkAt b t).ty), DV.v (.int .u16 (lkAt b t).flag), DV.sl Int inferInstance 1 zE (lkAt b t).at']
      rw [hat, hjg], fun y hy => rfl⟩, ?_, ?_⟩
    · show (((List.range i).map fun i => lkAt b (lkT b a i)).length + 1) * 32 ≤ _
      rw [List.length_map, List.length_range]; omega
    exact ⟨[0, 5], ⟨i + 1, hlt, fun q hq => by
      by_cases he : q = i
      · rw [he, ← ht]; exact hok
      · exact hall q (by omega)⟩, And.intro (And.intro rfl (And.intro rfl (And.intro rfl (And.intro rfl (And.intro (svI (i64_succ i (by omega))) trivial))))) (And.intro rfl (And.intro (owTre (hlast hok).symm) trivial)), by show N - (i + 1) < N - i; omega⟩
  have hjl : j < K := by
    have : ((j : Nat) : Int) < ((K : Nat) : Int) := of_decide_eq_true hjl
    omega
  have hwj := w2_range (hB.drop t.toNat) (6 + 2 * j)
  have e6j : IntKind.i64.wrap (IntKind.i64.wrap (t + 6) + IntKind.i64.wrap (2 * (j : Int))) = t + ((6 + 2 * j : Nat) : Int) := by rw [i64_id (t + 6) (by omega) (by omega), i64_id (2 * (j : Int)) (by omega) (by omega), i64_id _ (by omega) (by omega)]; omega
  refine Or.inr (Or.inr (Or.inl ⟨[0, 1, 2, 3, 4, 5, 6, 7, 8, 9, 10, 11], [11], [12, 13, 14], by kernel_rfl, ?_⟩))
  refine ⟨.int .i64 (w2 (b.drop t.toNat) (6 + 2 * j)), fun ρ S w hm => rw_c b t _ (6 + 2 * j) hB (by omega) ht0.1 (by omega) e6j _ w (hm.rd 0 rfl rfl), ?_⟩
  refine ⟨[IntKind.i64.wrap (t + w2 (b.drop t.toNat) (6 + 2 * j))], ⟨rfl, rfl, fun y hy => rfl⟩, ?_, ?_⟩
  · show (((List.range j).map fun j => t + w2 (b.drop t.toNat) (6 + 2 * j)).length + 1) * 8 ≤ _
    rw [List.length_map, List.length_range]; omega
  exact ⟨[0, 1, 2, 5], ⟨j + 1, hjl⟩, And.intro (And.intro rfl (And.intro rfl (And.intro rfl (And.intro rfl (And.intro rfl (And.intro rfl (And.intro rfl (And.intro rfl (And.intro (svI (i64_succ j (by omega))) trivial))))))))) (And.intro rfl (And.intro rfl (And.intro (And.intro rfl rfl) (And.intro (owZe (by rw [List.range_succ, List.map_append, i64_id (t + w2 (b.drop t.toNat) (6 + 2 * j)) (by omega) (by omega)]; rfl)) trivial)))), by show K - (j + 1) < K - j; omega⟩
end Go.Proofs.Ytjflgkadagkllaa
