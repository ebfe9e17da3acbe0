/- cover.Lookups and cover.Features over a reader of one's own. -/
import Derived.Test.YtalploampmdemaaN6
set_option maxRecDepth 100000
set_option linter.unusedVariables false
namespace Go.Proofs.Ytalploampmdemaa
open Go Go.Eng Go.RowKit

theorem look_no (b : List Int) (a : Int) (hB : Byt b) (hb : b.length ≤ 100000) (ha : IntKind.i64.wrap a = a) (hX0 : lookX b a = none) : LCall Try.prog ⟨0, [], rdC b false, [], []⟩ 22 [.bx 2 0, .v (.int .i64 a)] (fun st' s => st'.ch = rdC b false ∧ s = .tup [nilS, .v (.int .i64 50)]) := by
  refine lcall_exec (cf := cf) cfok (fn := Try.f22) Try.func22 rfl _ _ (rdC b false) (.tup [nilS, .v (.int .i64 50)]) rfl rfl (by simp [svOkL, svOk]) rfl (by exact ⟨trivial, ⟨Nat.le_refl _, rfl⟩, trivial, trivial⟩) rfl rfl ?_
  refine Or.inl ⟨_, fun ρ S w hm => room_w b a 2 _ _ (by omega) ha rfl rfl _ w (hm.rep 40 (.bx 2 0) (.ptr (rdD b)) rfl rfl), ?_⟩
  refine And.intro (fun h => ?_) (fun h => ?_)
  · have h : (!roomF b a 2) = true := h
    unfold roomF at h
    rw [Bool.not_not] at h
    exact ⟨[0, 1, 2], rfl, rfl, rfl, And.intro (And.intro rfl rfl) (And.intro rfl (And.intro (And.intro rfl rfl) trivial)), rfl⟩
  have h : (!roomF b a 2) = false := h
  unfold roomF at h
  rw [Bool.not_not] at h
  obtain ⟨h0, _, h2⟩ := outR_iff.1 h
  have hw2 := w2_range (hB.drop a.toNat) 0
  refine Or.inl ⟨.int .u16 (w2 (b.drop a.toNat) 0), fun ρ S w hm => word_x b a a 0 hB (by omega) h0 (by omega) (by simp) _ w (hm.rep 40 (.bx 2 0) (.ptr (rdD b)) rfl rfl), ?_⟩
  have eN : IntKind.i64.wrap (w2 (b.drop a.toNat) 0) = ((lkN b a : Nat) : Int) := by rw [i64_id _ (by omega) (by omega)]; unfold lkN; omega
  have ha2 : IntKind.i64.wrap (a + 2) = a + 2 := i64_id _ (by omega) (by omega)
  have hN0 : lkN b a ≤ 65535 := by unfold lkN; omega
  have e2N : IntKind.i64.wrap (2 * IntKind.i64.wrap (w2 (b.drop a.toNat) 0)) = 2 * ((lkN b a : Nat) : Int) := by rw [eN]; exact i64_id _ (by omega) (by omega)
  refine Or.inl ⟨.bool (roomF b (a + 2) (2 * (lkN b a : Int))), fun _ ρ S w hm => room_w b (a + 2) _ _ _ (by omega) ha2 ha2 e2N _ w (hm.rep 40 (.bx 2 0) (.ptr (rdD b)) rfl rfl), ?_⟩
  have hcond : (decide (IntKind.i64.wrap (w2 (b.drop a.toNat) 0) > 256) || !roomF b (a + 2) (2 * (lkN b a : Int))) = decide (256 < lkN b a ∨ outR b (a + 2) (2 * (lkN b a : Int)) = true) := by
    rw [eN]
    unfold roomF
    rw [Bool.not_not, Bool.decide_or, Bool.decide_eq_true]
    congr 1
    rw [decide_eq_decide]
    omega
  refine And.intro (fun h3 => ?_) (fun h3 => ?_)
  · have h3 := of_decide_eq_true (hcond.symm.trans h3)
    exact ⟨[0, 1, 2], rfl, rfl, rfl, And.intro (And.intro rfl rfl) (And.intro rfl (And.intro (And.intro rfl rfl) trivial)), rfl⟩
  have h3 := of_decide_eq_false (hcond.symm.trans h3)
  have hX : lookX b a = if ((List.range (lkN b a)).all fun i => okL b (lkT b a i)) = true then some ((List.range (lkN b a)).map fun i => lkAt b (lkT b a i)) else none := by
    unfold lookX
    rw [if_neg (by rw [h]; decide), if_neg h3]
  have h256 : lkN b a ≤ 256 := by omega
  have hrout : outR b (a + 2) (2 * (lkN b a : Int)) = false := by
    cases hh : outR b (a + 2) (2 * (lkN b a : Int)) with
    | true => exact absurd (Or.inr hh) h3
    | false => rfl
  have hroom : a + 2 + 2 * (lkN b a : Int) ≤ b.length := (outR_iff.1 hrout).2.2
  generalize hNN : lkN b a = N at *
  have badI : ∀ i, i < N → okL b (lkT b a i) = false → lookX b a = none := fun i hi hf => by
    rw [hX, if_neg (fun hall => by
      have := List.all_eq_true.1 hall i (List.mem_range.2 hi)
      rw [hf] at this
      cases this)]
  refine Or.inr (lcall_fresh (t := 31) (sz := 1) (enc := hE) (rowS b a 2 N) (fun ρ S w hm => words_x b a _ _ 2 N hB (by omega) h0 ha2 eN hrout _ w (hm.rep 40 (.bx 2 0) (.ptr (rdD b)) rfl rfl)) ?_)
  have hrl := rowS_len b a 2 N
  refine ⟨{ i : Nat // i ≤ N ∧ ∀ j, j < i → okL b (lkT b a j) = true }, fun i => ⟨114, [⟨0, [], .bx 2 0⟩, ⟨1, [], .v (.int .i64 a)⟩, ⟨7, [], .sl 4⟩, ⟨38, [], .sl 3⟩, ⟨39, [], .v (.int .i64 ((rowS b a 2 N).length : Nat))⟩, ⟨40, [], .v (.int .i64 (i.1 : Nat))⟩], rdC b false ++ [.own 31 Int inferInstance 1 hE (rowS b a 2 N), owT ((List.range i.1).map fun i => lkAt b (lkT b a i))], [], dropL nats 5⟩, fun i => N - i.1, ⟨[0, 1, 2, 3, 1000], ⟨0, Nat.zero_le _, fun j hj => absurd hj (Nat.not_lt_zero _)⟩, ?_⟩, fun i => ?_⟩
  · exact And.intro (And.intro rfl (And.intro rfl (And.intro rfl (And.intro rfl (And.intro rfl (And.intro rfl trivial)))))) (And.intro (And.intro rfl rfl) (And.intro rfl (And.intro (And.intro rfl rfl) (And.intro rfl (And.intro rfl trivial)))))
  obtain ⟨i, hi, hall⟩ := i
  refine And.intro (fun hlt => ?_) (fun hge => ?_)
  rotate_left
  · have hge : i = N := by
      have : ¬ ((i : Nat) : Int) < (((rowS b a 2 N).length : Nat) : Int) := of_decide_eq_false hge
      omega
    subst hge
    rw [if_pos (List.all_eq_true.2 fun j hj => hall j (List.mem_range.1 hj))] at hX
    exact absurd (hX0.symm.trans hX) (by simp)
  have hlt : i < N := by
    have : ((i : Nat) : Int) < (((rowS b a 2 N).length : Nat) : Int) := of_decide_eq_true hlt
    omega
  refine And.intro (show (0 : Int) ≤ (i : Int) ∧ (i : Int) < ((rowS b a 2 N).length : Int) from ⟨by omega, by omega⟩) ?_
  have hrn := rowS_nth b a 2 N i hlt
  have hwt := w2_range (hB.drop a.toNat) (2 + 2 * i)
  have eT : IntKind.i64.wrap (a + IntKind.i64.wrap (nth (rowS b a 2 N) i)) = lkT b a i := by
    rw [hrn, i64_id (w2 (b.drop a.toNat) (2 + 2 * i)) (by omega) (by omega), i64_id _ (by omega) (by omega)]; rfl
  have ht0 : 0 ≤ lkT b a i ∧ lkT b a i ≤ 1000000 := by unfold lkT; omega
  generalize hTT : lkT b a i = t at *
  have hok : okL b t = true → (fun i => lkAt b (lkT b a i)) i = lkAt b t := fun _ => by simp only; rw [hTT]
  have hidx : (((i : Nat) : Int)).toNat = i := Int.toNat_natCast i
  have htw : IntKind.i64.wrap t = t := i64_id _ (by omega) (by omega)
  have eT0 : IntKind.i64.wrap (a + IntKind.i64.wrap (nth (rowS b a 2 N) i)) = t + ((0 : Nat) : Int) := by rw [eT]; simp
  have eTc : ∀ c : Nat, c ≤ 10 → IntKind.i64.wrap (IntKind.i64.wrap (a + IntKind.i64.wrap (nth (rowS b a 2 N) i)) + (c : Int)) = t + (c : Int) := fun c hc => by rw [eT]; exact i64_id _ (by omega) (by omega)
  refine Or.inl ⟨_, fun ρ S w hm => room_w b t 6 _ _ (by omega) htw eT rfl _ w (hm.rep 40 (.bx 2 0) (.ptr (rdD b)) rfl rfl), ?_⟩
  refine And.intro (fun h4 => ?_) (fun h4 => ?_)
  · have h4 : (!roomF b t 6) = true := h4
    unfold roomF at h4
    rw [Bool.not_not] at h4
    exact ⟨[0, 1, 2], rfl, rfl, rfl, And.intro (And.intro rfl rfl) (And.intro rfl (And.intro (And.intro rfl rfl) trivial)), rfl⟩
  have h4 : (!roomF b t 6) = false := h4
  unfold roomF at h4
  rw [Bool.not_not] at h4
  have hr6 := (outR_iff.1 h4).2.2
  have hk := w2_range (hB.drop t.toNat) 4
  refine Or.inl ⟨.int .u16 (w2 (b.drop t.toNat) 4), fun ρ S w hm => word_x b t _ 4 hB (by omega) ht0.1 (by omega) (eTc 4 (by decide)) _ w (hm.rep 40 (.bx 2 0) (.ptr (rdD b)) rfl rfl), ?_⟩
  have hkk : lkK b t = w2 (b.drop t.toNat) 4 := rfl
  rw [← hkk] at hk ⊢
  have ek : IntKind.i64.wrap (lkK b t) = lkK b t := i64_id _ (by omega) (by omega)
  have e2k : IntKind.i64.wrap (2 * IntKind.i64.wrap (lkK b t)) = 2 * lkK b t := by rw [ek]; exact i64_id _ (by omega) (by omega)
  refine Or.inl ⟨_, fun _ ρ S w hm => room_w b (t + 6) (2 * lkK b t) _ _ (by omega) (i64_id _ (by omega) (by omega)) (eTc 6 (by decide)) e2k _ w (hm.rep 40 (.bx 2 0) (.ptr (rdD b)) rfl rfl), ?_⟩
  refine Or.inl ⟨.int .u16 (w2 (b.drop t.toNat) 2), fun hg ρ S w hm => word_x b t _ 2 hB (by omega) ht0.1 (by omega) (eTc 2 (by decide)) _ w (hm.rep 40 (.bx 2 0) (.ptr (rdD b)) rfl rfl), ?_⟩
  have hokE : okL b t = !(((decide (IntKind.i64.wrap (lkK b t) < 1) || decide (IntKind.i64.wrap (lkK b t) > 256)) || !roomF b (t + 6) (2 * lkK b t)) || decide (w2 (b.drop t.toNat) 2 > 15)) := by
    unfold okL roomF
    rw [h4, ek, Bool.not_not]
    have : decide (w2 (b.drop t.toNat) 2 > 15) = !decide (w2 (b.drop t.toNat) 2 ≤ 15) := by
      rw [← decide_not, decide_eq_decide]; omega
    rw [this]
    cases decide (lkK b t < 1) <;> cases decide (lkK b t > 256) <;> cases outR b (t + 6) (2 * lkK b t) <;> cases decide (w2 (b.drop t.toNat) 2 ≤ 15) <;> rfl
  refine And.intro (fun h5 => ?_) (fun h5 => ?_)
  · exact ⟨[0, 1, 2], rfl, rfl, rfl, And.intro (And.intro rfl rfl) (And.intro rfl (And.intro (And.intro rfl rfl) trivial)), rfl⟩
  have hokT : okL b t = true := by
    rw [hokE, show (((decide (IntKind.i64.wrap (lkK b t) < 1) || decide (IntKind.i64.wrap (lkK b t) > 256)) || !roomF b (t + 6) (2 * lkK b t)) || decide (w2 (b.drop t.toNat) 2 > 15)) = false from h5]; rfl
  have h5 : (((decide (IntKind.i64.wrap (lkK b t) < 1) || decide (IntKind.i64.wrap (lkK b t) > 256)) || !roomF b (t + 6) (2 * lkK b t)) || decide (w2 (b.drop t.toNat) 2 > 15)) = false := h5
  rw [Bool.or_eq_false_iff, Bool.or_eq_false_iff, Bool.or_eq_false_iff, decide_eq_false_iff_not, decide_eq_false_iff_not, decide_eq_false_iff_not, ek] at h5
  obtain ⟨⟨⟨h51, h52⟩, h53⟩, h54⟩ := h5
  have hout6 : outR b (t + 6) (2 * lkK b t) = false := by
    unfold roomF at h53
    simpa using h53
  obtain ⟨M, hM⟩ : ∃ M : Nat, M = (lkK b t).toNat := ⟨_, rfl⟩
  have hMk : lkK b t = (M : Int) := by omega
  refine Or.inl ⟨.int .u16 (w2 (b.drop t.toNat) 0), fun ρ S w hm => word_x b t _ 0 hB (by omega) ht0.1 (by omega) eT0 _ w (hm.rep 40 (.bx 2 0) (.ptr (rdD b)) rfl rfl), ?_⟩
  refine Or.inl ⟨.int .u16 (w2 (b.drop t.toNat) 2), fun ρ S w hm => word_x b t _ 2 hB (by omega) ht0.1 (by omega) (eTc 2 (by decide)) _ w (hm.rep 40 (.bx 2 0) (.ptr (rdD b)) rfl rfl), ?_⟩
  refine Or.inr (lcall_fresh (t := 31) (sz := 1) (enc := hE) (rowS b t 6 M) (fun ρ S w hm => words_x b t _ _ 6 M hB (by omega) ht0.1 (eTc 6 (by decide)) (by rw [ek]; exact hMk) (by rw [← hMk]; exact hout6) _ w (hm.rep 40 (.bx 2 0) (.ptr (rdD b)) rfl rfl)) ?_)
  have hml := rowS_len b t 6 M
  refine ⟨{ j : Nat // j ≤ M }, fun j => ⟨114, [⟨0, [], .bx 2 0⟩, ⟨1, [], .v (.int .i64 a)⟩, ⟨7, [], .sl 4⟩, ⟨10, [], .v (.int .i64 t)⟩, ⟨12, [], .bx 5 0⟩, ⟨38, [], .sl 3⟩, ⟨39, [], .v (.int .i64 ((rowS b a 2 N).length : Nat))⟩, ⟨40, [], .v (.int .i64 (i : Nat))⟩, ⟨92, [], .sl 7⟩, ⟨93, [], .v (.int .i64 ((rowS b t 6 M).length : Nat))⟩, ⟨94, [], .v (.int .i64 (j.1 : Nat))⟩], rdC b false ++ [.own 31 Int inferInstance 1 hE (rowS b a 2 N), owT ((List.range i).map fun i => lkAt b (lkT b a i)), .bx 74 [.v (.int .u16 (w2 (b.drop t.toNat) 0)), .v (.int .u16 (flagF (w2 (b.drop t.toNat) 2))), .sl 6], owZ ((List.range j.1).map fun j => t + w2 (b.drop t.toNat) (6 + 2 * j)), .own 31 Int inferInstance 1 hE (rowS b t 6 M)], [], dropL nats 8⟩, fun j => M - j.1, ⟨[0, 1, 2, 3, 4, 5, 1000, 6], ⟨0, Nat.zero_le _⟩, ?_⟩, fun j => ?_⟩
  · exact And.intro (And.intro rfl (And.intro rfl (And.intro rfl (And.intro (svI eT) (And.intro rfl (And.intro rfl (And.intro rfl (And.intro rfl (And.intro rfl (And.intro rfl (And.intro rfl trivial))))))))))) (And.intro (And.intro rfl rfl) (And.intro rfl (And.intro (And.intro rfl rfl) (And.intro rfl (And.intro rfl (And.intro (And.intro rfl rfl) (And.intro rfl (And.intro rfl trivial))))))))
  obtain ⟨j, hj⟩ := j
  refine And.intro (fun hjlt => ?_) (fun hjge => ?_)
  · have hjlt : j < M := by
      have : ((j : Nat) : Int) < (((rowS b t 6 M).length : Nat) : Int) := of_decide_eq_true hjlt
      omega
    refine And.intro (show (0 : Int) ≤ (j : Int) ∧ (j : Int) < ((rowS b t 6 M).length : Int) from ⟨by omega, by omega⟩) ?_
    have hwj := w2_range (hB.drop t.toNat) (6 + 2 * j)
    have ev : IntKind.i64.wrap (t + IntKind.i64.wrap (nth (rowS b t 6 M) j)) = t + w2 (b.drop t.toNat) (6 + 2 * j) := by
      rw [rowS_nth b t 6 M j hjlt, i64_id (w2 (b.drop t.toNat) (6 + 2 * j)) (by omega) (by omega), i64_id _ (by omega) (by omega)]
    refine ⟨[t + w2 (b.drop t.toNat) (6 + 2 * j)], ⟨rfl, congrArg (fun z : Int => [DV.v (Value.int IntKind.i64 z)]) ev, by simp⟩, by show (((List.range j).map fun j => t + w2 (b.drop t.toNat) (6 + 2 * j)).length + 1) * 8 ≤ _; rw [List.length_map, List.length_range]; omega, ?_⟩
    refine ⟨[0, 1, 2, 3, 4, 5, 9, 7], ⟨j + 1, hjlt⟩, And.intro (And.intro rfl (And.intro rfl (And.intro rfl (And.intro rfl (And.intro rfl (And.intro rfl (And.intro rfl (And.intro rfl (And.intro rfl (And.intro rfl (And.intro (svI (i64_succ j (by omega))) trivial))))))))))) (And.intro (And.intro rfl rfl) (And.intro rfl (And.intro (And.intro rfl rfl) (And.intro rfl (And.intro rfl (And.intro (And.intro rfl rfl) (And.intro (owZe ?_) (And.intro rfl trivial)))))))), by show M - (j + 1) < M - j; omega⟩
    rw [List.range_succ, List.map_append]; rfl
  · have hjge : j = M := by
      have : ¬ ((j : Nat) : Int) < (((rowS b t 6 M).length : Nat) : Int) := of_decide_eq_false hjge
      omega
    subst hjge
    refine ⟨[lkAt b t], ⟨rfl, by unfold lkAt; rw [← hM]; rfl, by simp⟩, ?_, ?_⟩
    · show (((List.range i).map fun i => lkAt b (lkT b a i)).length + 1) * 32 ≤ _
      rw [List.length_map, List.length_range]
      omega
    refine ⟨[0, 1, 2, 3, 9], ⟨i + 1, hlt, fun q hq => ?_⟩, And.intro (And.intro rfl (And.intro rfl (And.intro rfl (And.intro rfl (And.intro rfl (And.intro (svI (i64_succ i (by omega))) trivial)))))) (And.intro (And.intro rfl rfl) (And.intro rfl (And.intro (And.intro rfl rfl) (And.intro rfl (And.intro (owTe ?_) trivial))))), by show N - (i + 1) < N - i; omega⟩
    · by_cases e : q = i
      · rw [e, hTT]; exact hokT
      · exact hall q (by omega)
    · rw [List.range_succ, List.map_append, ← hTT]; rfl
theorem look_ok (b : List Int) (a : Int) (ts : List Tab) (hB : Byt b) (hb : b.length ≤ 100000) (ha : IntKind.i64.wrap a = a) (hX0 : lookX b a = some ts) : LCall Try.prog ⟨0, [], rdC b false, [], []⟩ 22 [.bx 2 0, .v (.int .i64 a)] (fun st' s => st'.ch = rdC b false ++ [owT ts] ∧ s = .tup [.sl 3, .v (.int .i64 0)]) := by
  refine lcall_exec (cf := cf) cfok (fn := Try.f22) Try.func22 rfl _ _ (rdC b false ++ [owT ts]) (.tup [.sl 3, .v (.int .i64 0)]) rfl rfl (by simp [svOkL, svOk]) rfl (by exact ⟨trivial, ⟨Nat.le_refl _, rfl⟩, trivial, trivial⟩) rfl rfl ?_
  refine Or.inl ⟨_, fun ρ S w hm => room_w b a 2 _ _ (by omega) ha rfl rfl _ w (hm.rep 40 (.bx 2 0) (.ptr (rdD b)) rfl rfl), ?_⟩
  refine And.intro (fun h => ?_) (fun h => ?_)
  · have h : (!roomF b a 2) = true := h
    unfold roomF at h
    rw [Bool.not_not] at h
    exact absurd (hX0.symm.trans (by unfold lookX; rw [if_pos h])) (by simp)
  have h : (!roomF b a 2) = false := h
  unfold roomF at h
  rw [Bool.not_not] at h
  obtain ⟨h0, _, h2⟩ := outR_iff.1 h
  have hw2 := w2_range (hB.drop a.toNat) 0
  refine Or.inl ⟨.int .u16 (w2 (b.drop a.toNat) 0), fun ρ S w hm => word_x b a a 0 hB (by omega) h0 (by omega) (by simp) _ w (hm.rep 40 (.bx 2 0) (.ptr (rdD b)) rfl rfl), ?_⟩
  have eN : IntKind.i64.wrap (w2 (b.drop a.toNat) 0) = ((lkN b a : Nat) : Int) := by rw [i64_id _ (by omega) (by omega)]; unfold lkN; omega
  have ha2 : IntKind.i64.wrap (a + 2) = a + 2 := i64_id _ (by omega) (by omega)
  have hN0 : lkN b a ≤ 65535 := by unfold lkN; omega
  have e2N : IntKind.i64.wrap (2 * IntKind.i64.wrap (w2 (b.drop a.toNat) 0)) = 2 * ((lkN b a : Nat) : Int) := by rw [eN]; exact i64_id _ (by omega) (by omega)
  refine Or.inl ⟨.bool (roomF b (a + 2) (2 * (lkN b a : Int))), fun _ ρ S w hm => room_w b (a + 2) _ _ _ (by omega) ha2 ha2 e2N _ w (hm.rep 40 (.bx 2 0) (.ptr (rdD b)) rfl rfl), ?_⟩
  have hcond : (decide (IntKind.i64.wrap (w2 (b.drop a.toNat) 0) > 256) || !roomF b (a + 2) (2 * (lkN b a : Int))) = decide (256 < lkN b a ∨ outR b (a + 2) (2 * (lkN b a : Int)) = true) := by
    rw [eN]
    unfold roomF
    rw [Bool.not_not, Bool.decide_or, Bool.decide_eq_true]
    congr 1
    rw [decide_eq_decide]
    omega
  refine And.intro (fun h3 => ?_) (fun h3 => ?_)
  · have h3 := of_decide_eq_true (hcond.symm.trans h3)
    exact absurd (hX0.symm.trans (by unfold lookX; rw [if_neg (by rw [h]; decide), if_pos h3])) (by simp)
  have h3 := of_decide_eq_false (hcond.symm.trans h3)
  have hX : lookX b a = if ((List.range (lkN b a)).all fun i => okL b (lkT b a i)) = true then some ((List.range (lkN b a)).map fun i => lkAt b (lkT b a i)) else none := by
    unfold lookX
    rw [if_neg (by rw [h]; decide), if_neg h3]
  have h256 : lkN b a ≤ 256 := by omega
  have hrout : outR b (a + 2) (2 * (lkN b a : Int)) = false := by
    cases hh : outR b (a + 2) (2 * (lkN b a : Int)) with
    | true => exact absurd (Or.inr hh) h3
    | false => rfl
  have hroom : a + 2 + 2 * (lkN b a : Int) ≤ b.length := (outR_iff.1 hrout).2.2
  generalize hNN : lkN b a = N at *
  have badI : ∀ i, i < N → okL b (lkT b a i) = false → lookX b a = none := fun i hi hf => by
    rw [hX, if_neg (fun hall => by
      have := List.all_eq_true.1 hall i (List.mem_range.2 hi)
      rw [hf] at this
      cases this)]
  refine Or.inr (lcall_fresh (t := 31) (sz := 1) (enc := hE) (rowS b a 2 N) (fun ρ S w hm => words_x b a _ _ 2 N hB (by omega) h0 ha2 eN hrout _ w (hm.rep 40 (.bx 2 0) (.ptr (rdD b)) rfl rfl)) ?_)
  have hrl := rowS_len b a 2 N
  refine ⟨{ i : Nat // i ≤ N ∧ ∀ j, j < i → okL b (lkT b a j) = true }, fun i => ⟨114, [⟨0, [], .bx 2 0⟩, ⟨1, [], .v (.int .i64 a)⟩, ⟨7, [], .sl 4⟩, ⟨38, [], .sl 3⟩, ⟨39, [], .v (.int .i64 ((rowS b a 2 N).length : Nat))⟩, ⟨40, [], .v (.int .i64 (i.1 : Nat))⟩], rdC b false ++ [.own 31 Int inferInstance 1 hE (rowS b a 2 N), owT ((List.range i.1).map fun i => lkAt b (lkT b a i))], [], dropL nats 5⟩, fun i => N - i.1, ⟨[0, 1, 2, 3, 1000], ⟨0, Nat.zero_le _, fun j hj => absurd hj (Nat.not_lt_zero _)⟩, ?_⟩, fun i => ?_⟩
  · exact And.intro (And.intro rfl (And.intro rfl (And.intro rfl (And.intro rfl (And.intro rfl (And.intro rfl trivial)))))) (And.intro (And.intro rfl rfl) (And.intro rfl (And.intro (And.intro rfl rfl) (And.intro rfl (And.intro rfl trivial)))))
  obtain ⟨i, hi, hall⟩ := i
  refine And.intro (fun hlt => ?_) (fun hge => ?_)
  rotate_left
  · have hge : i = N := by
      have : ¬ ((i : Nat) : Int) < (((rowS b a 2 N).length : Nat) : Int) := of_decide_eq_false hge
      omega
    subst hge
    rw [if_pos (List.all_eq_true.2 fun j hj => hall j (List.mem_range.1 hj))] at hX
    have e : ts = _ := Option.some.inj (hX0.symm.trans hX)
    subst e
    exact ⟨[0, 1, 2, 4], rfl, rfl, rfl, And.intro (And.intro rfl rfl) (And.intro rfl (And.intro (And.intro rfl rfl) (And.intro rfl trivial))), rfl⟩
  have hlt : i < N := by
    have : ((i : Nat) : Int) < (((rowS b a 2 N).length : Nat) : Int) := of_decide_eq_true hlt
    omega
  refine And.intro (show (0 : Int) ≤ (i : Int) ∧ (i : Int) < ((rowS b a 2 N).length : Int) from ⟨by omega, by omega⟩) ?_
  have hrn := rowS_nth b a 2 N i hlt
  have hwt := w2_range (hB.drop a.toNat) (2 + 2 * i)
  have eT : IntKind.i64.wrap (a + IntKind.i64.wrap (nth (rowS b a 2 N) i)) = lkT b a i := by
    rw [hrn, i64_id (w2 (b.drop a.toNat) (2 + 2 * i)) (by omega) (by omega), i64_id _ (by omega) (by omega)]; rfl
  have ht0 : 0 ≤ lkT b a i ∧ lkT b a i ≤ 1000000 := by unfold lkT; omega
  generalize hTT : lkT b a i = t at *
  have hok : okL b t = true → (fun i => lkAt b (lkT b a i)) i = lkAt b t := fun _ => by simp only; rw [hTT]
  have hidx : (((i : Nat) : Int)).toNat = i := Int.toNat_natCast i
  have htw : IntKind.i64.wrap t = t := i64_id _ (by omega) (by omega)
  have eT0 : IntKind.i64.wrap (a + IntKind.i64.wrap (nth (rowS b a 2 N) i)) = t + ((0 : Nat) : Int) := by rw [eT]; simp
  have eTc : ∀ c : Nat, c ≤ 10 → IntKind.i64.wrap (IntKind.i64.wrap (a + IntKind.i64.wrap (nth (rowS b a 2 N) i)) + (c : Int)) = t + (c : Int) := fun c hc => by rw [eT]; exact i64_id _ (by omega) (by omega)
  refine Or.inl ⟨_, fun ρ S w hm => room_w b t 6 _ _ (by omega) htw eT rfl _ w (hm.rep 40 (.bx 2 0) (.ptr (rdD b)) rfl rfl), ?_⟩
  refine And.intro (fun h4 => ?_) (fun h4 => ?_)
  · have h4 : (!roomF b t 6) = true := h4
    unfold roomF at h4
    rw [Bool.not_not] at h4
    refine absurd (hX0.symm.trans (badI i hlt ?_)) (by simp)
    rw [hTT]
    unfold okL
    rw [h4]; rfl
  have h4 : (!roomF b t 6) = false := h4
  unfold roomF at h4
  rw [Bool.not_not] at h4
  have hr6 := (outR_iff.1 h4).2.2
  have hk := w2_range (hB.drop t.toNat) 4
  refine Or.inl ⟨.int .u16 (w2 (b.drop t.toNat) 4), fun ρ S w hm => word_x b t _ 4 hB (by omega) ht0.1 (by omega) (eTc 4 (by decide)) _ w (hm.rep 40 (.bx 2 0) (.ptr (rdD b)) rfl rfl), ?_⟩
  have hkk : lkK b t = w2 (b.drop t.toNat) 4 := rfl
  rw [← hkk] at hk ⊢
  have ek : IntKind.i64.wrap (lkK b t) = lkK b t := i64_id _ (by omega) (by omega)
  have e2k : IntKind.i64.wrap (2 * IntKind.i64.wrap (lkK b t)) = 2 * lkK b t := by rw [ek]; exact i64_id _ (by omega) (by omega)
  refine Or.inl ⟨_, fun _ ρ S w hm => room_w b (t + 6) (2 * lkK b t) _ _ (by omega) (i64_id _ (by omega) (by omega)) (eTc 6 (by decide)) e2k _ w (hm.rep 40 (.bx 2 0) (.ptr (rdD b)) rfl rfl), ?_⟩
  refine Or.inl ⟨.int .u16 (w2 (b.drop t.toNat) 2), fun hg ρ S w hm => word_x b t _ 2 hB (by omega) ht0.1 (by omega) (eTc 2 (by decide)) _ w (hm.rep 40 (.bx 2 0) (.ptr (rdD b)) rfl rfl), ?_⟩
  have hokE : okL b t = !(((decide (IntKind.i64.wrap (lkK b t) < 1) || decide (IntKind.i64.wrap (lkK b t) > 256)) || !roomF b (t + 6) (2 * lkK b t)) || decide (w2 (b.drop t.toNat) 2 > 15)) := by
    unfold okL roomF
    rw [h4, ek, Bool.not_not]
    have : decide (w2 (b.drop t.toNat) 2 > 15) = !decide (w2 (b.drop t.toNat) 2 ≤ 15) := by
      rw [← decide_not, decide_eq_decide]; omega
    rw [this]
    cases decide (lkK b t < 1) <;> cases decide (lkK b t > 256) <;> cases outR b (t + 6) (2 * lkK b t) <;> cases decide (w2 (b.drop t.toNat) 2 ≤ 15) <;> rfl
  refine And.intro (fun h5 => ?_) (fun h5 => ?_)
  · refine absurd (hX0.symm.trans (badI i hlt ?_)) (by simp)
    rw [hTT, hokE, show (((decide (IntKind.i64.wrap (lkK b t) < 1) || decide (IntKind.i64.wrap (lkK b t) > 256)) || !roomF b (t + 6) (2 * lkK b t)) || decide (w2 (b.drop t.toNat) 2 > 15)) = true from h5]; rfl
  have hokT : okL b t = true := by
    rw [hokE, show (((decide (IntKind.i64.wrap (lkK b t) < 1) || decide (IntKind.i64.wrap (lkK b t) > 256)) || !roomF b (t + 6) (2 * lkK b t)) || decide (w2 (b.drop t.toNat) 2 > 15)) = false from h5]; rfl
  have h5 : (((decide (IntKind.i64.wrap (lkK b t) < 1) || decide (IntKind.i64.wrap (lkK b t) > 256)) || !roomF b (t + 6) (2 * lkK b t)) || decide (w2 (b.drop t.toNat) 2 > 15)) = false := h5
  rw [Bool.or_eq_false_iff, Bool.or_eq_false_iff, Bool.or_eq_false_iff, decide_eq_false_iff_not, decide_eq_false_iff_not, decide_eq_false_iff_not, ek] at h5
  obtain ⟨⟨⟨h51, h52⟩, h53⟩, h54⟩ := h5
  have hout6 : outR b (t + 6) (2 * lkK b t) = false := by
    unfold roomF at h53
    simpa using h53
  obtain ⟨M, hM⟩ : ∃ M : Nat, M = (lkK b t).toNat := ⟨_, rfl⟩
  have hMk : lkK b t = (M : Int) := by omega
  refine Or.inl ⟨.int .u16 (w2 (b.drop t.toNat) 0), fun ρ S w hm => word_x b t _ 0 hB (by omega) ht0.1 (by omega) eT0 _ w (hm.rep 40 (.bx 2 0) (.ptr (rdD b)) rfl rfl), ?_⟩
  refine Or.inl ⟨.int .u16 (w2 (b.drop t.toNat) 2), fun ρ S w hm => word_x b t _ 2 hB (by omega) ht0.1 (by omega) (eTc 2 (by decide)) _ w (hm.rep 40 (.bx 2 0) (.ptr (rdD b)) rfl rfl), ?_⟩
  refine Or.inr (lcall_fresh (t := 31) (sz := 1) (enc := hE) (rowS b t 6 M) (fun ρ S w hm => words_x b t _ _ 6 M hB (by omega) ht0.1 (eTc 6 (by decide)) (by rw [ek]; exact hMk) (by rw [← hMk]; exact hout6) _ w (hm.rep 40 (.bx 2 0) (.ptr (rdD b)) rfl rfl)) ?_)
  have hml := rowS_len b t 6 M
  refine ⟨{ j : Nat // j ≤ M }, fun j => ⟨114, [⟨0, [], .bx 2 0⟩, ⟨1, [], .v (.int .i64 a)⟩, ⟨7, [], .sl 4⟩, ⟨10, [], .v (.int .i64 t)⟩, ⟨12, [], .bx 5 0⟩, ⟨38, [], .sl 3⟩, ⟨39, [], .v (.int .i64 ((rowS b a 2 N).length : Nat))⟩, ⟨40, [], .v (.int .i64 (i : Nat))⟩, ⟨92, [], .sl 7⟩, ⟨93, [], .v (.int .i64 ((rowS b t 6 M).length : Nat))⟩, ⟨94, [], .v (.int .i64 (j.1 : Nat))⟩], rdC b false ++ [.own 31 Int inferInstance 1 hE (rowS b a 2 N), owT ((List.range i).map fun i => lkAt b (lkT b a i)), .bx 74 [.v (.int .u16 (w2 (b.drop t.toNat) 0)), .v (.int .u16 (flagF (w2 (b.drop t.toNat) 2))), .sl 6], owZ ((List.range j.1).map fun j => t + w2 (b.drop t.toNat) (6 + 2 * j)), .own 31 Int inferInstance 1 hE (rowS b t 6 M)], [], dropL nats 8⟩, fun j => M - j.1, ⟨[0, 1, 2, 3, 4, 5, 1000, 6], ⟨0, Nat.zero_le _⟩, ?_⟩, fun j => ?_⟩
  · exact And.intro (And.intro rfl (And.intro rfl (And.intro rfl (And.intro (svI eT) (And.intro rfl (And.intro rfl (And.intro rfl (And.intro rfl (And.intro rfl (And.intro rfl (And.intro rfl trivial))))))))))) (And.intro (And.intro rfl rfl) (And.intro rfl (And.intro (And.intro rfl rfl) (And.intro rfl (And.intro rfl (And.intro (And.intro rfl rfl) (And.intro rfl (And.intro rfl trivial))))))))
  obtain ⟨j, hj⟩ := j
  refine And.intro (fun hjlt => ?_) (fun hjge => ?_)
  · have hjlt : j < M := by
      have : ((j : Nat) : Int) < (((rowS b t 6 M).length : Nat) : Int) := of_decide_eq_true hjlt
      omega
    refine And.intro (show (0 : Int) ≤ (j : Int) ∧ (j : Int) < ((rowS b t 6 M).length : Int) from ⟨by omega, by omega⟩) ?_
    have hwj := w2_range (hB.drop t.toNat) (6 + 2 * j)
    have ev : IntKind.i64.wrap (t + IntKind.i64.wrap (nth (rowS b t 6 M) j)) = t + w2 (b.drop t.toNat) (6 + 2 * j) := by
      rw [rowS_nth b t 6 M j hjlt, i64_id (w2 (b.drop t.toNat) (6 + 2 * j)) (by omega) (by omega), i64_id _ (by omega) (by omega)]
    refine ⟨[t + w2 (b.drop t.toNat) (6 + 2 * j)], ⟨rfl, congrArg (fun z : Int => [DV.v (Value.int IntKind.i64 z)]) ev, by simp⟩, by show (((List.range j).map fun j => t + w2 (b.drop t.toNat) (6 + 2 * j)).length + 1) * 8 ≤ _; rw [List.length_map, List.length_range]; omega, ?_⟩
    refine ⟨[0, 1, 2, 3, 4, 5, 9, 7], ⟨j + 1, hjlt⟩, And.intro (And.intro rfl (And.intro rfl (And.intro rfl (And.intro rfl (And.intro rfl (And.intro rfl (And.intro rfl (And.intro rfl (And.intro rfl (And.intro rfl (And.intro (svI (i64_succ j (by omega))) trivial))))))))))) (And.intro (And.intro rfl rfl) (And.intro rfl (And.intro (And.intro rfl rfl) (And.intro rfl (And.intro rfl (And.intro (And.intro rfl rfl) (And.intro (owZe ?_) (And.intro rfl trivial)))))))), by show M - (j + 1) < M - j; omega⟩
    rw [List.range_succ, List.map_append]; rfl
  · have hjge : j = M := by
      have : ¬ ((j : Nat) : Int) < (((rowS b t 6 M).length : Nat) : Int) := of_decide_eq_false hjge
      omega
    subst hjge
    refine ⟨[lkAt b t], ⟨rfl, by unfold lkAt; rw [← hM]; rfl, by simp⟩, ?_, ?_⟩
    · show (((List.range i).map fun i => lkAt b (lkT b a i)).length + 1) * 32 ≤ _
      rw [List.length_map, List.length_range]
      omega
    refine ⟨[0, 1, 2, 3, 9], ⟨i + 1, hlt, fun q hq => ?_⟩, And.intro (And.intro rfl (And.intro rfl (And.intro rfl (And.intro rfl (And.intro rfl (And.intro (svI (i64_succ i (by omega))) trivial)))))) (And.intro (And.intro rfl rfl) (And.intro rfl (And.intro (And.intro rfl rfl) (And.intro rfl (And.intro (owTe ?_) trivial))))), by show N - (i + 1) < N - i; omega⟩
    · by_cases e : q = i
      · rw [e, hTT]; exact hokT
      · exact hall q (by omega)
    · rw [List.range_succ, List.map_append, ← hTT]; rfl
theorem feat_no (b : List Int) (a L : Int) (hB : Byt b) (hb : b.length ≤ 100000) (ha : IntKind.i64.wrap a = a) (hX0 : featX b a L = none) : LCall Try.prog ⟨0, [], rdC b false, [], []⟩ 23 [.bx 2 0, .v (.int .i64 a), .v (.int .i64 L)] (fun st' s => st'.ch = rdC b false ∧ s = .tup [nilS, .v (.int .i64 50)]) := by
  refine lcall_exec (cf := cf) cfok (fn := Try.f23) Try.func23 rfl _ _ (rdC b false) (.tup [nilS, .v (.int .i64 50)]) rfl rfl (by simp [svOkL, svOk]) rfl (by exact ⟨trivial, ⟨Nat.le_refl _, rfl⟩, trivial, trivial⟩) rfl rfl ?_
  refine Or.inl ⟨_, fun ρ S w hm => room_w b a 2 _ _ (by omega) ha rfl rfl _ w (hm.rep 40 (.bx 2 0) (.ptr (rdD b)) rfl rfl), ?_⟩
  refine And.intro (fun h => ?_) (fun h => ?_)
  · have h : (!roomF b a 2) = true := h
    unfold roomF at h
    rw [Bool.not_not] at h
    exact ⟨[0, 1, 2], rfl, rfl, rfl, And.intro (And.intro rfl rfl) (And.intro rfl (And.intro (And.intro rfl rfl) trivial)), rfl⟩
  have h : (!roomF b a 2) = false := h
  unfold roomF at h
  rw [Bool.not_not] at h
  obtain ⟨h0, _, h2⟩ := outR_iff.1 h
  have hw2 := w2_range (hB.drop a.toNat) 0
  refine Or.inl ⟨.int .u16 (w2 (b.drop a.toNat) 0), fun ρ S w hm => by
    have := word_w b a a 0 (by omega) h0 (by omega) (by simp) _ w (hm.rep 40 (.bx 2 0) (.ptr (rdD b)) rfl rfl)
    rw [wd_w2 (hB.drop _)] at this
    exact this, ?_⟩
  have eN : IntKind.i64.wrap (w2 (b.drop a.toNat) 0) = ((fN b a : Nat) : Int) := by rw [i64_id _ (by omega) (by omega)]; unfold fN; omega
  have ha2 : IntKind.i64.wrap (a + 2) = a + 2 := i64_id _ (by omega) (by omega)
  have hN0 : fN b a ≤ 65535 := by unfold fN; omega
  have e6N : IntKind.i64.wrap (6 * IntKind.i64.wrap (w2 (b.drop a.toNat) 0)) = 6 * ((fN b a : Nat) : Int) := by rw [eN]; exact i64_id _ (by omega) (by omega)
  refine Or.inl ⟨.bool (roomF b (a + 2) (6 * (fN b a : Int))), fun _ ρ S w hm => room_w b (a + 2) _ _ _ (by omega) ha2 ha2 e6N _ w (hm.rep 40 (.bx 2 0) (.ptr (rdD b)) rfl rfl), ?_⟩
  have hcond : (decide (IntKind.i64.wrap (w2 (b.drop a.toNat) 0) > 512) || !roomF b (a + 2) (6 * (fN b a : Int))) = decide (512 < fN b a ∨ outR b (a + 2) (6 * (fN b a : Int)) = true) := by
    rw [eN]
    unfold roomF
    rw [Bool.not_not, Bool.decide_or, Bool.decide_eq_true]
    congr 1
    rw [decide_eq_decide]
    omega
  refine And.intro (fun h3 => ?_) (fun h3 => ?_)
  · have h3 := of_decide_eq_true (hcond.symm.trans h3)
    exact ⟨[0, 1, 2], rfl, rfl, rfl, And.intro (And.intro rfl rfl) (And.intro rfl (And.intro (And.intro rfl rfl) trivial)), rfl⟩
  have h3 := of_decide_eq_false (hcond.symm.trans h3)
  have hX : featX b a L = if ((List.range (fN b a)).all fun i => okT b (fT b a i) L) = true then some ((List.range (fN b a)).map (fAt b a)) else none := by
    unfold featX
    rw [if_neg (by rw [h]; decide), if_neg h3]
  have h512 : fN b a ≤ 512 := by omega
  have hroom : a + 2 + 6 * (fN b a : Int) ≤ b.length := by
    have : outR b (a + 2) (6 * (fN b a : Int)) = false := by
      cases hh : outR b (a + 2) (6 * (fN b a : Int)) with
      | true => exact absurd (Or.inr hh) h3
      | false => rfl
    exact (outR_iff.1 this).2.2
  generalize hNN : fN b a = N at *
  have badI : ∀ i, i < N → okT b (fT b a i) L = false → featX b a L = none := fun i hi hf => by
    rw [hX, if_neg (fun hall => by
      have := List.all_eq_true.1 hall i (List.mem_range.2 hi)
      rw [hf] at this
      cases this)]
  refine ⟨{ i : Nat // i ≤ N ∧ ∀ j, j < i → okT b (fT b a j) L = true }, fun i => ⟨130, [⟨0, [], .bx 2 0⟩, ⟨1, [], .v (.int .i64 a)⟩, ⟨2, [], .v (.int .i64 L)⟩, ⟨9, [], .sl 3⟩, ⟨35, [], .v (.int .i64 (N : Nat))⟩, ⟨36, [], .v (.int .i64 (i.1 : Nat))⟩], rdC b false ++ [owF ((List.range i.1).map (fAt b a))], [], dropL nats 4⟩, fun i => N - i.1, ⟨[0, 1, 2, 1000], ⟨0, Nat.zero_le _, fun j hj => absurd hj (Nat.not_lt_zero _)⟩, ?_⟩, fun i => ?_⟩
  · exact And.intro (And.intro rfl (And.intro rfl (And.intro rfl (And.intro rfl (And.intro (svI eN) (And.intro rfl trivial)))))) (And.intro (And.intro rfl rfl) (And.intro rfl (And.intro (And.intro rfl rfl) (And.intro rfl trivial))))
  obtain ⟨i, hi, hall⟩ := i
  refine And.intro (fun hlt => ?_) (fun hge => ?_)
  rotate_left
  · have hge : i = N := by
      have : ¬ ((i : Nat) : Int) < ((N : Nat) : Int) := of_decide_eq_false hge
      omega
    subst hge
    rw [if_pos (List.all_eq_true.2 fun j hj => hall j (List.mem_range.1 hj))] at hX
    exact absurd (hX0.symm.trans hX) (by simp)
  have hlt : i < N := by
    have : ((i : Nat) : Int) < ((N : Nat) : Int) := of_decide_eq_true hlt
    omega
  have eP : IntKind.i64.wrap (IntKind.i64.wrap (a + 2) + IntKind.i64.wrap (6 * (i : Int))) = a + ((6 * i + 2 : Nat) : Int) := by
    rw [ha2, i64_id (6 * (i : Int)) (by omega) (by omega), i64_id _ (by omega) (by omega)]; omega
  have eP1 : ∀ c : Nat, c ≤ 4 → IntKind.i64.wrap (IntKind.i64.wrap (IntKind.i64.wrap (a + 2) + IntKind.i64.wrap (6 * (i : Int))) + (c : Int)) = a + ((6 * i + (2 + c) : Nat) : Int) := fun c hc => by
    rw [eP, i64_id _ (by omega) (by omega)]; omega
  refine Or.inl ⟨_, fun ρ S w hm => byte_w b a _ (6 * i + 2) hB (by omega) h0 (by omega) eP _ w (hm.rep 40 (.bx 2 0) (.ptr (rdD b)) rfl rfl), ?_⟩
  refine Or.inl ⟨_, fun ρ S w hm => byte_w b a _ (6 * i + 3) hB (by omega) h0 (by omega) (eP1 1 (by decide)) _ w (hm.rep 40 (.bx 2 0) (.ptr (rdD b)) rfl rfl), ?_⟩
  refine Or.inl ⟨_, fun ρ S w hm => byte_w b a _ (6 * i + 4) hB (by omega) h0 (by omega) (eP1 2 (by decide)) _ w (hm.rep 40 (.bx 2 0) (.ptr (rdD b)) rfl rfl), ?_⟩
  refine Or.inl ⟨_, fun ρ S w hm => byte_w b a _ (6 * i + 5) hB (by omega) h0 (by omega) (eP1 3 (by decide)) _ w (hm.rep 40 (.bx 2 0) (.ptr (rdD b)) rfl rfl), ?_⟩
  have hwt := w2_range (hB.drop a.toNat) (6 * i + 6)
  refine Or.inl ⟨.int .u16 (w2 (b.drop a.toNat) (6 * i + 6)), fun ρ S w hm => by
    have := word_w b a _ (6 * i + 6) (by omega) h0 (by omega) (eP1 4 (by decide)) _ w (hm.rep 40 (.bx 2 0) (.ptr (rdD b)) rfl rfl)
    rw [wd_w2 (hB.drop _)] at this
    exact this, ?_⟩
  have eT : IntKind.i64.wrap (a + IntKind.i64.wrap (w2 (b.drop a.toNat) (6 * i + 6))) = fT b a i := by
    rw [i64_id (w2 (b.drop a.toNat) (6 * i + 6)) (by omega) (by omega), i64_id _ (by omega) (by omega)]; rfl
  have ht0 : 0 ≤ fT b a i ∧ fT b a i ≤ 1000000 := by unfold fT; omega
  generalize hTT : fT b a i = t at *
  have eT0 : IntKind.i64.wrap (a + IntKind.i64.wrap (w2 (b.drop a.toNat) (6 * i + 6))) = t + ((0 : Nat) : Int) := by rw [eT]; simp
  have htw : IntKind.i64.wrap t = t := i64_id _ (by omega) (by omega)
  have ht4 : IntKind.i64.wrap (IntKind.i64.wrap (a + IntKind.i64.wrap (w2 (b.drop a.toNat) (6 * i + 6))) + 4) = t + 4 := by rw [eT]; exact i64_id _ (by omega) (by omega)
  have ht2 : IntKind.i64.wrap (IntKind.i64.wrap (a + IntKind.i64.wrap (w2 (b.drop a.toNat) (6 * i + 6))) + 2) = t + ((2 : Nat) : Int) := by rw [eT]; exact i64_id _ (by omega) (by omega)
  have hwk := w2_range (hB.drop t.toNat) 2
  have ek : IntKind.i64.wrap (w2 (b.drop t.toNat) 2) = w2 (b.drop t.toNat) 2 := i64_id _ (by omega) (by omega)
  have ekN : IntKind.i64.wrap (w2 (b.drop t.toNat) 2) = (((w2 (b.drop t.toNat) 2).toNat : Nat) : Int) := by rw [ek]; omega
  have e2k : IntKind.i64.wrap (2 * IntKind.i64.wrap (w2 (b.drop t.toNat) 2)) = 2 * w2 (b.drop t.toNat) 2 := by rw [ek]; exact i64_id _ (by omega) (by omega)
  have inT : roomF b t 4 = true → t + 4 ≤ b.length := fun h => by
    unfold roomF at h
    rw [Bool.not_eq_true'] at h
    exact (outR_iff.1 h).2.2
  refine Or.inl ⟨_, fun ρ S w hm => room_w b t 4 _ _ (by omega) htw eT rfl _ w (hm.rep 40 (.bx 2 0) (.ptr (rdD b)) rfl rfl), ?_⟩
  refine Or.inl ⟨.int .u16 (w2 (b.drop t.toNat) 0), fun hg ρ S w hm => by
    have hg : (!roomF b t 4) = false := hg
    have hr := inT (by simpa using hg)
    have := word_w b t _ 0 (by omega) ht0.1 (by omega) eT0 _ w (hm.rep 40 (.bx 2 0) (.ptr (rdD b)) rfl rfl)
    rw [wd_w2 (hB.drop _)] at this
    exact this, ?_⟩
  refine Or.inl ⟨.int .u16 (w2 (b.drop t.toNat) 2), fun hg ρ S w hm => by
    have hg : (!roomF b t 4 || !decide (w2 (b.drop t.toNat) 0 = 0)) = false := hg
    rw [Bool.or_eq_false_iff] at hg
    have hr := inT (by simpa using hg.1)
    have := word_w b t _ 2 (by omega) ht0.1 (by omega) ht2 _ w (hm.rep 40 (.bx 2 0) (.ptr (rdD b)) rfl rfl)
    rw [wd_w2 (hB.drop _)] at this
    exact this, ?_⟩
  refine Or.inl ⟨_, fun _ ρ S w hm => room_w b (t + 4) (2 * w2 (b.drop t.toNat) 2) _ _ (by omega) (i64_id _ (by omega) (by omega)) ht4 e2k _ w (hm.rep 40 (.bx 2 0) (.ptr (rdD b)) rfl rfl), ?_⟩
  refine And.intro (fun h4 => ?_) (fun h4 => ?_)
  · exact ⟨[0, 1, 2], rfl, rfl, rfl, And.intro (And.intro rfl rfl) (And.intro rfl (And.intro (And.intro rfl rfl) trivial)), rfl⟩
  replace h4 : ((!roomF b t 4 || !decide (w2 (b.drop t.toNat) 0 = 0)) || !roomF b (t + 4) (2 * w2 (b.drop t.toNat) 2)) = false := h4
  rw [Bool.or_eq_false_iff, Bool.or_eq_false_iff] at h4
  obtain ⟨⟨h41, h42⟩, h43⟩ := h4
  have hr4 := inT (by simpa using h41)
  have hout4 : outR b (t + 4) (2 * w2 (b.drop t.toNat) 2) = false := by
    unfold roomF at h43
    simpa using h43
  have hw0 : w2 (b.drop t.toNat) 0 = 0 := by simpa using h42
  have hout : outR b t 4 = false := by
    unfold roomF at h41
    simpa using h41
  refine Or.inl ⟨.int .u16 (w2 (b.drop t.toNat) 2), fun ρ S w hm => by
    have := word_w b t _ 2 (by omega) ht0.1 (by omega) ht2 _ w (hm.rep 40 (.bx 2 0) (.ptr (rdD b)) rfl rfl)
    rw [wd_w2 (hB.drop _)] at this
    exact this, ?_⟩
  refine Or.inr (lcall_fresh (t := 31) (sz := 1) (enc := hE) (rowW b t) (fun ρ S w hm => by
    have := words_w b t _ _ 4 (w2 (b.drop t.toNat) 2).toNat (by omega) ht0.1 ht4 ekN (by rw [Int.toNat_of_nonneg hwk.1]; exact hout4) _ w (hm.rep 40 (.bx 2 0) (.ptr (rdD b)) rfl rfl)
    rw [row_eq2 hB] at this
    exact this) ?_)
  have hrl : (rowW b t).length ≤ 65535 := by unfold rowW; rw [List.length_map, List.length_range]; omega
  have hrr := rowW_range hB t
  have hok : okT b t L = ((rowW b t).all fun x => decide (x < L)) := by
    unfold okT
    rw [hout, hw0, hout4]
    rfl
  have hfat : fAt b a i = ⟨nth (b.drop a.toNat) (6 * i + 2), nth (b.drop a.toNat) (6 * i + 3), nth (b.drop a.toNat) (6 * i + 4), nth (b.drop a.toNat) (6 * i + 5), ksF (rowW b t)⟩ := by unfold fAt; rw [hTT]
  generalize rowW b t = row at *
  refine ⟨{ j : Nat // j ≤ row.length ∧ ∀ q, q < j → nth row q < L }, fun j => ⟨130, [⟨0, [], .bx 2 0⟩, ⟨1, [], .v (.int .i64 a)⟩, ⟨2, [], .v (.int .i64 L)⟩, ⟨9, [], .sl 3⟩, ⟨12, [], .bx 4 0⟩, ⟨35, [], .v (.int .i64 (N : Nat))⟩, ⟨36, [], .v (.int .i64 (i : Nat))⟩, ⟨99, [], .sl 6⟩, ⟨100, [], .v (.int .i64 (row.length : Nat))⟩, ⟨101, [], .v (.int .i64 (j.1 : Nat))⟩],
      rdC b false ++ [owF ((List.range i).map (fAt b a)), .bx 52 [.v (.int .u8 (nth (b.drop a.toNat) (6 * i + 2))), .v (.int .u8 (nth (b.drop a.toNat) (6 * i + 3))), .v (.int .u8 (nth (b.drop a.toNat) (6 * i + 4))), .v (.int .u8 (nth (b.drop a.toNat) (6 * i + 5))), .sl 5], owZ (row.take j.1), .own 31 Int inferInstance 1 hE row], [], dropL nats 7⟩, fun j => row.length - j.1, ⟨[0, 1, 2, 3, 4, 1000, 5], ⟨0, Nat.zero_le _, fun q hq => absurd hq (Nat.not_lt_zero _)⟩, ?_⟩, fun j => ?_⟩
  · exact And.intro (And.intro rfl (And.intro rfl (And.intro rfl (And.intro rfl (And.intro rfl (And.intro rfl (And.intro rfl (And.intro rfl (And.intro rfl (And.intro rfl trivial)))))))))) (And.intro (And.intro rfl rfl) (And.intro rfl (And.intro (And.intro rfl rfl) (And.intro rfl (And.intro (And.intro rfl rfl) (And.intro rfl (And.intro rfl trivial)))))))
  obtain ⟨j, hj, hjall⟩ := j
  refine And.intro (fun hjlt => ?_) (fun hjge => ?_)
  · have hjlt : j < row.length := by
      have : ((j : Nat) : Int) < ((row.length : Nat) : Int) := of_decide_eq_true hjlt
      omega
    have hjr := hrr j hjlt
    have ej : IntKind.i64.wrap (nth row j) = nth row j := i64_id _ (by omega) (by omega)
    refine And.intro (show (0 : Int) ≤ ((j : Nat) : Int) ∧ ((j : Nat) : Int) < ((row.length : Nat) : Int) from ⟨by omega, by omega⟩) ?_
    refine And.intro (fun hb2 => ?_) (fun hb2 => ?_)
    · have hb2 : IntKind.i64.wrap (nth row j) ≥ L := of_decide_eq_true hb2
      rw [ej] at hb2
      exact ⟨[0, 1, 2], rfl, rfl, rfl, And.intro (And.intro rfl rfl) (And.intro rfl (And.intro (And.intro rfl rfl) trivial)), rfl⟩
    · have hb2 : ¬ IntKind.i64.wrap (nth row j) ≥ L := of_decide_eq_false hb2
      rw [ej] at hb2
      refine ⟨[nth row j], ⟨rfl, congrArg (fun z : Int => [DV.v (Value.int IntKind.i64 z)]) ej, by simp⟩, by show ((row.take j).length + 1) * 8 ≤ _; rw [List.length_take]; omega, ?_⟩
      refine ⟨[0, 1, 2, 3, 4, 8, 6], ⟨j + 1, hjlt, fun q hq => ?_⟩, And.intro (And.intro rfl (And.intro rfl (And.intro rfl (And.intro rfl (And.intro rfl (And.intro rfl (And.intro rfl (And.intro rfl (And.intro rfl (And.intro (svI (i64_succ j (by omega))) trivial)))))))))) (And.intro (And.intro rfl rfl) (And.intro rfl (And.intro (And.intro rfl rfl) (And.intro rfl (And.intro (And.intro rfl rfl) (And.intro (owZe ?_) (And.intro rfl trivial))))))), by show row.length - (j + 1) < row.length - j; omega⟩
      · by_cases e : q = j
        · subst e; omega
        · exact hjall q (by omega)
      · rw [List.take_succ_eq_append_getElem hjlt, ← nthZ hjlt]
  · have hjge : j = row.length := by
      have : ¬ ((j : Nat) : Int) < ((row.length : Nat) : Int) := of_decide_eq_false hjge
      omega
    subst hjge
    have hokT : okT b t L = true := by
      rw [hok]
      refine List.all_eq_true.2 fun x hx => decide_eq_true ?_
      obtain ⟨q, hq, rfl⟩ := List.getElem_of_mem hx
      have := hjall q hq
      rw [nthZ hq] at this
      exact this
    have hs := sort_s (row.take row.length) (by rw [List.take_length]; omega)
    rw [List.take_length] at hs
    refine Or.inr (lcall_sub [5] hs rfl rfl rfl rfl rfl (And.intro (owZe List.take_length) trivial) ?_)
    have hsl : (row.mergeSort fun x y => decide (x ≤ y)).length = row.length := List.length_mergeSort _
    refine Or.inr (lcall_sub [5] (compact_s (row.mergeSort fun x y => decide (x ≤ y)) (by omega)) rfl rfl rfl rfl rfl (And.intro rfl trivial) ?_)
    refine ⟨[⟨nth (b.drop a.toNat) (6 * i + 2), nth (b.drop a.toNat) (6 * i + 3), nth (b.drop a.toNat) (6 * i + 4), nth (b.drop a.toNat) (6 * i + 5), ksF row⟩], ⟨rfl, rfl, by simp⟩, ?_, ?_⟩
    · show (((List.range i).map (fAt b a)).length + 1) * 32 ≤ _
      rw [List.length_map, List.length_range]
      omega
    refine ⟨[0, 1, 2, 9], ⟨i + 1, hlt, fun q hq => ?_⟩, And.intro (And.intro rfl (And.intro rfl (And.intro rfl (And.intro rfl (And.intro rfl (And.intro (svI (i64_succ i (by omega))) trivial)))))) (And.intro (And.intro rfl rfl) (And.intro rfl (And.intro (And.intro rfl rfl) (And.intro (owFe ?_) trivial)))), by show N - (i + 1) < N - i; omega⟩
    · by_cases e : q = i
      · subst e; rw [hTT]; exact hokT
      · exact hall q (by omega)
    · rw [List.range_succ, List.map_append, ← hfat]; rfl
theorem feat_ok (b : List Int) (a L : Int) (ts : List Feat) (hB : Byt b) (hb : b.length ≤ 100000) (ha : IntKind.i64.wrap a = a) (hX0 : featX b a L = some ts) : LCall Try.prog ⟨0, [], rdC b false, [], []⟩ 23 [.bx 2 0, .v (.int .i64 a), .v (.int .i64 L)] (fun st' s => st'.ch = rdC b false ++ [owF ts] ∧ s = .tup [.sl 3, .v (.int .i64 0)]) := by
  refine lcall_exec (cf := cf) cfok (fn := Try.f23) Try.func23 rfl _ _ (rdC b false ++ [owF ts]) (.tup [.sl 3, .v (.int .i64 0)]) rfl rfl (by simp [svOkL, svOk]) rfl (by exact ⟨trivial, ⟨Nat.le_refl _, rfl⟩, trivial, trivial⟩) rfl rfl ?_
  refine Or.inl ⟨_, fun ρ S w hm => room_w b a 2 _ _ (by omega) ha rfl rfl _ w (hm.rep 40 (.bx 2 0) (.ptr (rdD b)) rfl rfl), ?_⟩
  refine And.intro (fun h => ?_) (fun h => ?_)
  · have h : (!roomF b a 2) = true := h
    unfold roomF at h
    rw [Bool.not_not] at h
    exact absurd (hX0.symm.trans (by unfold featX; rw [if_pos h])) (by simp)
  have h : (!roomF b a 2) = false := h
  unfold roomF at h
  rw [Bool.not_not] at h
  obtain ⟨h0, _, h2⟩ := outR_iff.1 h
  have hw2 := w2_range (hB.drop a.toNat) 0
  refine Or.inl ⟨.int .u16 (w2 (b.drop a.toNat) 0), fun ρ S w hm => by
    have := word_w b a a 0 (by omega) h0 (by omega) (by simp) _ w (hm.rep 40 (.bx 2 0) (.ptr (rdD b)) rfl rfl)
    rw [wd_w2 (hB.drop _)] at this
    exact this, ?_⟩
  have eN : IntKind.i64.wrap (w2 (b.drop a.toNat) 0) = ((fN b a : Nat) : Int) := by rw [i64_id _ (by omega) (by omega)]; unfold fN; omega
  have ha2 : IntKind.i64.wrap (a + 2) = a + 2 := i64_id _ (by omega) (by omega)
  have hN0 : fN b a ≤ 65535 := by unfold fN; omega
  have e6N : IntKind.i64.wrap (6 * IntKind.i64.wrap (w2 (b.drop a.toNat) 0)) = 6 * ((fN b a : Nat) : Int) := by rw [eN]; exact i64_id _ (by omega) (by omega)
  refine Or.inl ⟨.bool (roomF b (a + 2) (6 * (fN b a : Int))), fun _ ρ S w hm => room_w b (a + 2) _ _ _ (by omega) ha2 ha2 e6N _ w (hm.rep 40 (.bx 2 0) (.ptr (rdD b)) rfl rfl), ?_⟩
  have hcond : (decide (IntKind.i64.wrap (w2 (b.drop a.toNat) 0) > 512) || !roomF b (a + 2) (6 * (fN b a : Int))) = decide (512 < fN b a ∨ outR b (a + 2) (6 * (fN b a : Int)) = true) := by
    rw [eN]
    unfold roomF
    rw [Bool.not_not, Bool.decide_or, Bool.decide_eq_true]
    congr 1
    rw [decide_eq_decide]
    omega
  refine And.intro (fun h3 => ?_) (fun h3 => ?_)
  · have h3 := of_decide_eq_true (hcond.symm.trans h3)
    exact absurd (hX0.symm.trans (by unfold featX; rw [if_neg (by rw [h]; decide), if_pos h3])) (by simp)
  have h3 := of_decide_eq_false (hcond.symm.trans h3)
  have hX : featX b a L = if ((List.range (fN b a)).all fun i => okT b (fT b a i) L) = true then some ((List.range (fN b a)).map (fAt b a)) else none := by
    unfold featX
    rw [if_neg (by rw [h]; decide), if_neg h3]
  have h512 : fN b a ≤ 512 := by omega
  have hroom : a + 2 + 6 * (fN b a : Int) ≤ b.length := by
    have : outR b (a + 2) (6 * (fN b a : Int)) = false := by
      cases hh : outR b (a + 2) (6 * (fN b a : Int)) with
      | true => exact absurd (Or.inr hh) h3
      | false => rfl
    exact (outR_iff.1 this).2.2
  generalize hNN : fN b a = N at *
  have badI : ∀ i, i < N → okT b (fT b a i) L = false → featX b a L = none := fun i hi hf => by
    rw [hX, if_neg (fun hall => by
      have := List.all_eq_true.1 hall i (List.mem_range.2 hi)
      rw [hf] at this
      cases this)]
  refine ⟨{ i : Nat // i ≤ N ∧ ∀ j, j < i → okT b (fT b a j) L = true }, fun i => ⟨130, [⟨0, [], .bx 2 0⟩, ⟨1, [], .v (.int .i64 a)⟩, ⟨2, [], .v (.int .i64 L)⟩, ⟨9, [], .sl 3⟩, ⟨35, [], .v (.int .i64 (N : Nat))⟩, ⟨36, [], .v (.int .i64 (i.1 : Nat))⟩], rdC b false ++ [owF ((List.range i.1).map (fAt b a))], [], dropL nats 4⟩, fun i => N - i.1, ⟨[0, 1, 2, 1000], ⟨0, Nat.zero_le _, fun j hj => absurd hj (Nat.not_lt_zero _)⟩, ?_⟩, fun i => ?_⟩
  · exact And.intro (And.intro rfl (And.intro rfl (And.intro rfl (And.intro rfl (And.intro (svI eN) (And.intro rfl trivial)))))) (And.intro (And.intro rfl rfl) (And.intro rfl (And.intro (And.intro rfl rfl) (And.intro rfl trivial))))
  obtain ⟨i, hi, hall⟩ := i
  refine And.intro (fun hlt => ?_) (fun hge => ?_)
  rotate_left
  · have hge : i = N := by
      have : ¬ ((i : Nat) : Int) < ((N : Nat) : Int) := of_decide_eq_false hge
      omega
    subst hge
    rw [if_pos (List.all_eq_true.2 fun j hj => hall j (List.mem_range.1 hj))] at hX
    have e : ts = _ := Option.some.inj (hX0.symm.trans hX)
    subst e
    exact ⟨[0, 1, 2, 3], rfl, rfl, rfl, And.intro (And.intro rfl rfl) (And.intro rfl (And.intro (And.intro rfl rfl) (And.intro rfl trivial))), rfl⟩
  have hlt : i < N := by
    have : ((i : Nat) : Int) < ((N : Nat) : Int) := of_decide_eq_true hlt
    omega
  have eP : IntKind.i64.wrap (IntKind.i64.wrap (a + 2) + IntKind.i64.wrap (6 * (i : Int))) = a + ((6 * i + 2 : Nat) : Int) := by
    rw [ha2, i64_id (6 * (i : Int)) (by omega) (by omega), i64_id _ (by omega) (by omega)]; omega
  have eP1 : ∀ c : Nat, c ≤ 4 → IntKind.i64.wrap (IntKind.i64.wrap (IntKind.i64.wrap (a + 2) + IntKind.i64.wrap (6 * (i : Int))) + (c : Int)) = a + ((6 * i + (2 + c) : Nat) : Int) := fun c hc => by
    rw [eP, i64_id _ (by omega) (by omega)]; omega
  refine Or.inl ⟨_, fun ρ S w hm => byte_w b a _ (6 * i + 2) hB (by omega) h0 (by omega) eP _ w (hm.rep 40 (.bx 2 0) (.ptr (rdD b)) rfl rfl), ?_⟩
  refine Or.inl ⟨_, fun ρ S w hm => byte_w b a _ (6 * i + 3) hB (by omega) h0 (by omega) (eP1 1 (by decide)) _ w (hm.rep 40 (.bx 2 0) (.ptr (rdD b)) rfl rfl), ?_⟩
  refine Or.inl ⟨_, fun ρ S w hm => byte_w b a _ (6 * i + 4) hB (by omega) h0 (by omega) (eP1 2 (by decide)) _ w (hm.rep 40 (.bx 2 0) (.ptr (rdD b)) rfl rfl), ?_⟩
  refine Or.inl ⟨_, fun ρ S w hm => byte_w b a _ (6 * i + 5) hB (by omega) h0 (by omega) (eP1 3 (by decide)) _ w (hm.rep 40 (.bx 2 0) (.ptr (rdD b)) rfl rfl), ?_⟩
  have hwt := w2_range (hB.drop a.toNat) (6 * i + 6)
  refine Or.inl ⟨.int .u16 (w2 (b.drop a.toNat) (6 * i + 6)), fun ρ S w hm => by
    have := word_w b a _ (6 * i + 6) (by omega) h0 (by omega) (eP1 4 (by decide)) _ w (hm.rep 40 (.bx 2 0) (.ptr (rdD b)) rfl rfl)
    rw [wd_w2 (hB.drop _)] at this
    exact this, ?_⟩
  have eT : IntKind.i64.wrap (a + IntKind.i64.wrap (w2 (b.drop a.toNat) (6 * i + 6))) = fT b a i := by
    rw [i64_id (w2 (b.drop a.toNat) (6 * i + 6)) (by omega) (by omega), i64_id _ (by omega) (by omega)]; rfl
  have ht0 : 0 ≤ fT b a i ∧ fT b a i ≤ 1000000 := by unfold fT; omega
  generalize hTT : fT b a i = t at *
  have eT0 : IntKind.i64.wrap (a + IntKind.i64.wrap (w2 (b.drop a.toNat) (6 * i + 6))) = t + ((0 : Nat) : Int) := by rw [eT]; simp
  have htw : IntKind.i64.wrap t = t := i64_id _ (by omega) (by omega)
  have ht4 : IntKind.i64.wrap (IntKind.i64.wrap (a + IntKind.i64.wrap (w2 (b.drop a.toNat) (6 * i + 6))) + 4) = t + 4 := by rw [eT]; exact i64_id _ (by omega) (by omega)
  have ht2 : IntKind.i64.wrap (IntKind.i64.wrap (a + IntKind.i64.wrap (w2 (b.drop a.toNat) (6 * i + 6))) + 2) = t + ((2 : Nat) : Int) := by rw [eT]; exact i64_id _ (by omega) (by omega)
  have hwk := w2_range (hB.drop t.toNat) 2
  have ek : IntKind.i64.wrap (w2 (b.drop t.toNat) 2) = w2 (b.drop t.toNat) 2 := i64_id _ (by omega) (by omega)
  have ekN : IntKind.i64.wrap (w2 (b.drop t.toNat) 2) = (((w2 (b.drop t.toNat) 2).toNat : Nat) : Int) := by rw [ek]; omega
  have e2k : IntKind.i64.wrap (2 * IntKind.i64.wrap (w2 (b.drop t.toNat) 2)) = 2 * w2 (b.drop t.toNat) 2 := by rw [ek]; exact i64_id _ (by omega) (by omega)
  have inT : roomF b t 4 = true → t + 4 ≤ b.length := fun h => by
    unfold roomF at h
    rw [Bool.not_eq_true'] at h
    exact (outR_iff.1 h).2.2
  refine Or.inl ⟨_, fun ρ S w hm => room_w b t 4 _ _ (by omega) htw eT rfl _ w (hm.rep 40 (.bx 2 0) (.ptr (rdD b)) rfl rfl), ?_⟩
  refine Or.inl ⟨.int .u16 (w2 (b.drop t.toNat) 0), fun hg ρ S w hm => by
    have hg : (!roomF b t 4) = false := hg
    have hr := inT (by simpa using hg)
    have := word_w b t _ 0 (by omega) ht0.1 (by omega) eT0 _ w (hm.rep 40 (.bx 2 0) (.ptr (rdD b)) rfl rfl)
    rw [wd_w2 (hB.drop _)] at this
    exact this, ?_⟩
  refine Or.inl ⟨.int .u16 (w2 (b.drop t.toNat) 2), fun hg ρ S w hm => by
    have hg : (!roomF b t 4 || !decide (w2 (b.drop t.toNat) 0 = 0)) = false := hg
    rw [Bool.or_eq_false_iff] at hg
    have hr := inT (by simpa using hg.1)
    have := word_w b t _ 2 (by omega) ht0.1 (by omega) ht2 _ w (hm.rep 40 (.bx 2 0) (.ptr (rdD b)) rfl rfl)
    rw [wd_w2 (hB.drop _)] at this
    exact this, ?_⟩
  refine Or.inl ⟨_, fun _ ρ S w hm => room_w b (t + 4) (2 * w2 (b.drop t.toNat) 2) _ _ (by omega) (i64_id _ (by omega) (by omega)) ht4 e2k _ w (hm.rep 40 (.bx 2 0) (.ptr (rdD b)) rfl rfl), ?_⟩
  refine And.intro (fun h4 => ?_) (fun h4 => ?_)
  · refine absurd (hX0.symm.trans (badI i hlt ?_)) (by simp)
    replace h4 : ((!roomF b t 4 || !decide (w2 (b.drop t.toNat) 0 = 0)) || !roomF b (t + 4) (2 * w2 (b.drop t.toNat) 2)) = true := h4
    rw [hTT]
    unfold okT
    unfold roomF at h4
    cases h1 : outR b t 4 <;> cases h2 : decide (w2 (b.drop t.toNat) 0 = 0) <;> cases h3 : outR b (t + 4) (2 * w2 (b.drop t.toNat) 2) <;> simp_all
  replace h4 : ((!roomF b t 4 || !decide (w2 (b.drop t.toNat) 0 = 0)) || !roomF b (t + 4) (2 * w2 (b.drop t.toNat) 2)) = false := h4
  rw [Bool.or_eq_false_iff, Bool.or_eq_false_iff] at h4
  obtain ⟨⟨h41, h42⟩, h43⟩ := h4
  have hr4 := inT (by simpa using h41)
  have hout4 : outR b (t + 4) (2 * w2 (b.drop t.toNat) 2) = false := by
    unfold roomF at h43
    simpa using h43
  have hw0 : w2 (b.drop t.toNat) 0 = 0 := by simpa using h42
  have hout : outR b t 4 = false := by
    unfold roomF at h41
    simpa using h41
  refine Or.inl ⟨.int .u16 (w2 (b.drop t.toNat) 2), fun ρ S w hm => by
    have := word_w b t _ 2 (by omega) ht0.1 (by omega) ht2 _ w (hm.rep 40 (.bx 2 0) (.ptr (rdD b)) rfl rfl)
    rw [wd_w2 (hB.drop _)] at this
    exact this, ?_⟩
  refine Or.inr (lcall_fresh (t := 31) (sz := 1) (enc := hE) (rowW b t) (fun ρ S w hm => by
    have := words_w b t _ _ 4 (w2 (b.drop t.toNat) 2).toNat (by omega) ht0.1 ht4 ekN (by rw [Int.toNat_of_nonneg hwk.1]; exact hout4) _ w (hm.rep 40 (.bx 2 0) (.ptr (rdD b)) rfl rfl)
    rw [row_eq2 hB] at this
    exact this) ?_)
  have hrl : (rowW b t).length ≤ 65535 := by unfold rowW; rw [List.length_map, List.length_range]; omega
  have hrr := rowW_range hB t
  have hok : okT b t L = ((rowW b t).all fun x => decide (x < L)) := by
    unfold okT
    rw [hout, hw0, hout4]
    rfl
  have hfat : fAt b a i = ⟨nth (b.drop a.toNat) (6 * i + 2), nth (b.drop a.toNat) (6 * i + 3), nth (b.drop a.toNat) (6 * i + 4), nth (b.drop a.toNat) (6 * i + 5), ksF (rowW b t)⟩ := by unfold fAt; rw [hTT]
  generalize rowW b t = row at *
  refine ⟨{ j : Nat // j ≤ row.length ∧ ∀ q, q < j → nth row q < L }, fun j => ⟨130, [⟨0, [], .bx 2 0⟩, ⟨1, [], .v (.int .i64 a)⟩, ⟨2, [], .v (.int .i64 L)⟩, ⟨9, [], .sl 3⟩, ⟨12, [], .bx 4 0⟩, ⟨35, [], .v (.int .i64 (N : Nat))⟩, ⟨36, [], .v (.int .i64 (i : Nat))⟩, ⟨99, [], .sl 6⟩, ⟨100, [], .v (.int .i64 (row.length : Nat))⟩, ⟨101, [], .v (.int .i64 (j.1 : Nat))⟩],
      rdC b false ++ [owF ((List.range i).map (fAt b a)), .bx 52 [.v (.int .u8 (nth (b.drop a.toNat) (6 * i + 2))), .v (.int .u8 (nth (b.drop a.toNat) (6 * i + 3))), .v (.int .u8 (nth (b.drop a.toNat) (6 * i + 4))), .v (.int .u8 (nth (b.drop a.toNat) (6 * i + 5))), .sl 5], owZ (row.take j.1), .own 31 Int inferInstance 1 hE row], [], dropL nats 7⟩, fun j => row.length - j.1, ⟨[0, 1, 2, 3, 4, 1000, 5], ⟨0, Nat.zero_le _, fun q hq => absurd hq (Nat.not_lt_zero _)⟩, ?_⟩, fun j => ?_⟩
  · exact And.intro (And.intro rfl (And.intro rfl (And.intro rfl (And.intro rfl (And.intro rfl (And.intro rfl (And.intro rfl (And.intro rfl (And.intro rfl (And.intro rfl trivial)))))))))) (And.intro (And.intro rfl rfl) (And.intro rfl (And.intro (And.intro rfl rfl) (And.intro rfl (And.intro (And.intro rfl rfl) (And.intro rfl (And.intro rfl trivial)))))))
  obtain ⟨j, hj, hjall⟩ := j
  refine And.intro (fun hjlt => ?_) (fun hjge => ?_)
  · have hjlt : j < row.length := by
      have : ((j : Nat) : Int) < ((row.length : Nat) : Int) := of_decide_eq_true hjlt
      omega
    have hjr := hrr j hjlt
    have ej : IntKind.i64.wrap (nth row j) = nth row j := i64_id _ (by omega) (by omega)
    refine And.intro (show (0 : Int) ≤ ((j : Nat) : Int) ∧ ((j : Nat) : Int) < ((row.length : Nat) : Int) from ⟨by omega, by omega⟩) ?_
    refine And.intro (fun hb2 => ?_) (fun hb2 => ?_)
    · have hb2 : IntKind.i64.wrap (nth row j) ≥ L := of_decide_eq_true hb2
      rw [ej] at hb2
      refine absurd (hX0.symm.trans (badI i hlt ?_)) (by simp)
      rw [hTT, hok]
      rw [Bool.eq_false_iff]
      intro hh
      have := of_decide_eq_true (List.all_eq_true.1 hh (nth row j) (by rw [nthZ hjlt]; exact List.getElem_mem _))
      omega
    · have hb2 : ¬ IntKind.i64.wrap (nth row j) ≥ L := of_decide_eq_false hb2
      rw [ej] at hb2
      refine ⟨[nth row j], ⟨rfl, congrArg (fun z : Int => [DV.v (Value.int IntKind.i64 z)]) ej, by simp⟩, by show ((row.take j).length + 1) * 8 ≤ _; rw [List.length_take]; omega, ?_⟩
      refine ⟨[0, 1, 2, 3, 4, 8, 6], ⟨j + 1, hjlt, fun q hq => ?_⟩, And.intro (And.intro rfl (And.intro rfl (And.intro rfl (And.intro rfl (And.intro rfl (And.intro rfl (And.intro rfl (And.intro rfl (And.intro rfl (And.intro (svI (i64_succ j (by omega))) trivial)))))))))) (And.intro (And.intro rfl rfl) (And.intro rfl (And.intro (And.intro rfl rfl) (And.intro rfl (And.intro (And.intro rfl rfl) (And.intro (owZe ?_) (And.intro rfl trivial))))))), by show row.length - (j + 1) < row.length - j; omega⟩
      · by_cases e : q = j
        · subst e; omega
        · exact hjall q (by omega)
      · rw [List.take_succ_eq_append_getElem hjlt, ← nthZ hjlt]
  · have hjge : j = row.length := by
      have : ¬ ((j : Nat) : Int) < ((row.length : Nat) : Int) := of_decide_eq_false hjge
      omega
    subst hjge
    have hokT : okT b t L = true := by
      rw [hok]
      refine List.all_eq_true.2 fun x hx => decide_eq_true ?_
      obtain ⟨q, hq, rfl⟩ := List.getElem_of_mem hx
      have := hjall q hq
      rw [nthZ hq] at this
      exact this
    have hs := sort_s (row.take row.length) (by rw [List.take_length]; omega)
    rw [List.take_length] at hs
    refine Or.inr (lcall_sub [5] hs rfl rfl rfl rfl rfl (And.intro (owZe List.take_length) trivial) ?_)
    have hsl : (row.mergeSort fun x y => decide (x ≤ y)).length = row.length := List.length_mergeSort _
    refine Or.inr (lcall_sub [5] (compact_s (row.mergeSort fun x y => decide (x ≤ y)) (by omega)) rfl rfl rfl rfl rfl (And.intro rfl trivial) ?_)
    refine ⟨[⟨nth (b.drop a.toNat) (6 * i + 2), nth (b.drop a.toNat) (6 * i + 3), nth (b.drop a.toNat) (6 * i + 4), nth (b.drop a.toNat) (6 * i + 5), ksF row⟩], ⟨rfl, rfl, by simp⟩, ?_, ?_⟩
    · show (((List.range i).map (fAt b a)).length + 1) * 32 ≤ _
      rw [List.length_map, List.length_range]
      omega
    refine ⟨[0, 1, 2, 9], ⟨i + 1, hlt, fun q hq => ?_⟩, And.intro (And.intro rfl (And.intro rfl (And.intro rfl (And.intro rfl (And.intro rfl (And.intro (svI (i64_succ i (by omega))) trivial)))))) (And.intro (And.intro rfl rfl) (And.intro rfl (And.intro (And.intro rfl rfl) (And.intro (owFe ?_) trivial)))), by show N - (i + 1) < N - i; omega⟩
    · by_cases e : q = i
      · subst e; rw [hTT]; exact hokT
      · exact hall q (by omega)
    · rw [List.range_succ, List.map_append, ← hfat]; rfl
end Go.Proofs.Ytalploampmdemaa
