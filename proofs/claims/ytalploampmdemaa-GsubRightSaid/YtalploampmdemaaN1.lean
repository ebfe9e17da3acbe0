/- cover.Lookups. -/
import Derived.Test.YtalploampmdemaaR19
set_option maxRecDepth 100000
set_option linter.unusedVariables false
namespace Go.Proofs.Ytalploampmdemaa
open Go Go.Eng Go.RowKit

theorem word_x (b : List Int) (a q : Int) (p : Nat) (hB : Byt b) (hb : b.length ≤ 1000000) (h0 : 0 ≤ a) (h : a + p + 2 ≤ b.length) (hq : q = a + p) (v : Value) (w : World) (hv : Rdr w v b) :
    Calls Try.prog 21 #[v, .int .i64 q] w fun e w' => e = .returned (.int .u16 (w2 (b.drop a.toNat) p)) ∧ Below w.heap.size w w' := by
  have := word_w b a q p hb h0 h hq v w hv
  rw [wd_w2 (hB.drop _)] at this
  exact this
structure Tab where
  ty : Int
  flag : Int
  at' : List Int
deriving Inhabited
abbrev tbE : Tab → List DV := fun t => [.v (.int .u16 t.ty), .v (.int .u16 t.flag), .sl Int inferInstance 1 zE t.at']
abbrev owT (xs : List Tab) : Chunk := .own 74 Tab inferInstance 3 tbE xs
theorem owTe {a b : List Tab} (h : a = b) : owT a = owT b := by rw [h]
def lkN (b : List Int) (a : Int) : Nat := (w2 (b.drop a.toNat) 0).toNat
def lkT (b : List Int) (a : Int) (i : Nat) : Int := a + w2 (b.drop a.toNat) (2 + 2 * i)
def lkK (b : List Int) (t : Int) : Int := w2 (b.drop t.toNat) 4
def okL (b : List Int) (t : Int) : Bool := !outR b t 6 && (!(decide (lkK b t < 1) || decide (lkK b t > 256)) && (!outR b (t + 6) (2 * lkK b t) && decide (w2 (b.drop t.toNat) 2 ≤ 15)))
def flagF (n : Int) : Int := bitsV .andNot .u16 n 1
def lkAt (b : List Int) (t : Int) : Tab := ⟨w2 (b.drop t.toNat) 0, flagF (w2 (b.drop t.toNat) 2), (List.range (lkK b t).toNat).map fun j => t + w2 (b.drop t.toNat) (6 + 2 * j)⟩
def lookX (b : List Int) (a : Int) : Option (List Tab) :=
  if outR b a 2 = true then none
  else if 256 < lkN b a ∨ outR b (a + 2) (2 * (lkN b a : Int)) = true then none
  else if ((List.range (lkN b a)).all fun i => okL b (lkT b a i)) = true then some ((List.range (lkN b a)).map fun i => lkAt b (lkT b a i)) else none
def errT (o : Option (List Tab)) : Int := match o with | some _ => 0 | none => 50
def rowS (b : List Int) (a : Int) (p n : Nat) : List Int := (List.range n).map fun j => w2 (b.drop a.toNat) (p + 2 * j)
theorem rowS_eq {b : List Int} (hB : Byt b) (a : Int) (p n : Nat) : rowO (b.drop a.toNat) p n = rowS b a p n := by
  unfold rowO rowS
  exact List.map_congr_left fun j _ => wo_w2 (hB.drop _) _
theorem rowS_len (b : List Int) (a : Int) (p n : Nat) : (rowS b a p n).length = n := by unfold rowS; rw [List.length_map, List.length_range]
theorem rowS_nth (b : List Int) (a : Int) (p n i : Nat) (h : i < n) : nth (rowS b a p n) i = w2 (b.drop a.toNat) (p + 2 * i) := by
  unfold rowS nth
  rw [List.getD_eq_getElem?_getD, List.getElem?_map, List.getElem?_range h]; rfl
def LookR (o : Option (List Tab)) (S : Nat → Prop) (w : World) (e : Ending) (w' : World) : Prop :=
  ∃ us, e = .returned (.tuple us.toArray) ∧ Below w.heap.size w w' ∧ repYs (fun b => S b ∨ (w.heap.size ≤ b ∧ b < w'.heap.size)) w' [.sl Tab inferInstance 3 tbE (o.getD []), .v (.int .i64 (errT o))] us
theorem words_x (b : List Int) (a q m : Int) (p n : Nat) (hB : Byt b) (hb : b.length ≤ 1000000) (h0 : 0 ≤ a) (hq : q = a + p) (hm : m = (n : Int)) (ho : outR b (a + p) (2 * (n : Int)) = false) (v : Value) (w : World) (hv : Rdr w v b) :
    Calls Try.prog 37 #[v, .int .i64 q, .int .i64 m] w fun e w' => ∃ u, e = .returned u ∧ Below w.heap.size w w' ∧ Fresh w w' u 31 1 hE (rowS b a p n) := by
  have := words_w b a q m p n hb h0 hq hm ho v w hv
  rw [rowS_eq hB] at this
  exact this
theorem look_c (b : List Int) (a : Int) (hB : Byt b) (hb : b.length ≤ 100000) (ha : IntKind.i64.wrap a = a) (v : Value) (w : World) (S : Nat → Prop) (hS : ∀ b, S b → b < w.heap.size) (hv : DRep S w (.ptr (rdD b)) v) :
    Calls Try.prog 22 #[v, .int .i64 a] w (LookR (lookX b a) S w) := by
  obtain ⟨k, o, rfl⟩ : ∃ k o, v = .pointer (some ⟨k, o, none⟩) := by cases hv; exact ⟨_, _, rfl⟩
  refine calls_exec2 (cf := cf) cfok rfl rfl (fn := Try.f22) Try.func22 rfl [.bx 0 0, .v (.int .i64 a)] [.rp [] (rdD b)] (ρ := fun _ => .pointer (some ⟨k, o, none⟩)) (· < w.heap.size) S rfl rfl rfl (by simp [svOkL, svOk]) rfl (memRd hS ⟨hv, trivial⟩) (fun b hb => ⟨hb, rd_own rfl b⟩) ?_
  have bad : lookX b a = none → ∀ w', Below w.heap.size w w' → LookR (lookX b a) S w (.returned (.tuple #[.slice none 0 0, .int .i64 50])) w' := fun h w' hb => by
    rw [h]
    exact ⟨[.slice none 0 0, .int .i64 50], rfl, hb, ⟨DRep.nil, rfl, trivial⟩⟩
  refine Or.inl ⟨_, fun ρ S w hm => room_w b a 2 _ _ (by omega) ha rfl rfl _ w (hm.rp 0 rfl rfl), ?_⟩
  refine And.intro (fun h => ?_) (fun h => ?_)
  · have h : (!roomF b a 2) = true := h
    unfold roomF at h
    rw [Bool.not_not] at h
    exact fun ρ S' w' hi => bad (by unfold lookX; rw [if_pos h]) w' hi.below
  have h : (!roomF b a 2) = false := h
  unfold roomF at h
  rw [Bool.not_not] at h
  obtain ⟨h0, _, h2⟩ := outR_iff.1 h
  have hw2 := w2_range (hB.drop a.toNat) 0
  refine Or.inl ⟨.int .u16 (w2 (b.drop a.toNat) 0), fun ρ S w hm => word_x b a a 0 hB (by omega) h0 (by omega) (by simp) _ w (hm.rp 0 rfl rfl), ?_⟩
  have eN : IntKind.i64.wrap (w2 (b.drop a.toNat) 0) = ((lkN b a : Nat) : Int) := by rw [i64_id _ (by omega) (by omega)]; unfold lkN; omega
  have ha2 : IntKind.i64.wrap (a + 2) = a + 2 := i64_id _ (by omega) (by omega)
  have hN0 : lkN b a ≤ 65535 := by unfold lkN; omega
  have e2N : IntKind.i64.wrap (2 * IntKind.i64.wrap (w2 (b.drop a.toNat) 0)) = 2 * ((lkN b a : Nat) : Int) := by rw [eN]; exact i64_id _ (by omega) (by omega)
  refine Or.inl ⟨.bool (roomF b (a + 2) (2 * (lkN b a : Int))), fun _ ρ S w hm => room_w b (a + 2) _ _ _ (by omega) ha2 ha2 e2N _ w (hm.rp 0 rfl rfl), ?_⟩
  have hcond : (decide (IntKind.i64.wrap (w2 (b.drop a.toNat) 0) > 256) || !roomF b (a + 2) (2 * (lkN b a : Int))) = decide (256 < lkN b a ∨ outR b (a + 2) (2 * (lkN b a : Int)) = true) := by
    rw [eN]
    unfold roomF
    rw [Bool.not_not, Bool.decide_or, Bool.decide_eq_true]
    congr 1
    rw [decide_eq_decide]
    omega
  refine And.intro (fun h3 => ?_) (fun h3 => ?_)
  · have h3 := of_decide_eq_true (hcond.symm.trans h3)
    exact fun ρ S' w' hi => bad (by unfold lookX; rw [if_neg (by rw [h]; decide), if_pos h3]) w' hi.below
  have h3 := of_decide_eq_false (hcond.symm.trans h3)
  have hX : lookX b a = if ((List.range (lkN b a)).all fun i => okL b (lkT b a i)) = true then some ((List.range (lkN b a)).map fun i => lkAt b (lkT b a i)) else none := by
    unfold lookX
    rw [if_neg (by rw [h]; decide), if_neg h3]
  have h256 : lkN b a ≤ 256 := by omega
  have hrout : outR b (a + 2) (2 * (lkN b a : Int)) = false := by
    cases hh : outR b (a + 2) (2 * (lkN b a : Int)) with
    | true => exact absurd (Or.inr hh) h3
    | false => rfl
  have hroom : a + 2 + 2 * (lkN b a : Int) ≤ b.length := (outR_iff.1 hrout).2.2
  generalize hNN : lkN b a = N at *
  have badI : ∀ i, i < N → okL b (lkT b a i) = false → lookX b a = none := fun i hi hf => by
    rw [hX, if_neg (fun hall => by
      have := List.all_eq_true.1 hall i (List.mem_range.2 hi)
      rw [hf] at this
      cases this)]
  refine Or.inr (lcall_fresh (t := 31) (sz := 1) (enc := hE) (rowS b a 2 N) (fun ρ S w hm => words_x b a _ _ 2 N hB (by omega) h0 ha2 eN hrout _ w (hm.rp 0 rfl rfl)) ?_)
  have hrl := rowS_len b a 2 N
  refine ⟨{ i : Nat // i ≤ N ∧ ∀ j, j < i → okL b (lkT b a j) = true }, fun i => ⟨114, [⟨0, [], .bx 0 0⟩, ⟨1, [], .v (.int .i64 a)⟩, ⟨7, [], .sl 2⟩, ⟨38, [], .sl 1⟩, ⟨39, [], .v (.int .i64 ((rowS b a 2 N).length : Nat))⟩, ⟨40, [], .v (.int .i64 (i.1 : Nat))⟩], [.rp [] (rdD b), .own 31 Int inferInstance 1 hE (rowS b a 2 N), owT ((List.range i.1).map fun i => lkAt b (lkT b a i))], [], dropL nats 3⟩, fun i => N - i.1, ⟨[0, 1, 1000], ⟨0, Nat.zero_le _, fun j hj => absurd hj (Nat.not_lt_zero _)⟩, ?_⟩, fun i => ?_⟩
  · exact And.intro (And.intro rfl (And.intro rfl (And.intro rfl (And.intro rfl (And.intro rfl (And.intro rfl trivial)))))) (And.intro ⟨rfl, rfl⟩ (And.intro rfl (And.intro rfl trivial)))
  obtain ⟨i, hi, hall⟩ := i
  refine And.intro (fun hlt => ?_) (fun hge => ?_)
  rotate_left
  · have hge : i = N := by
      have : ¬ ((i : Nat) : Int) < (((rowS b a 2 N).length : Nat) : Int) := of_decide_eq_false hge
      omega
    subst hge
    rw [if_pos (List.all_eq_true.2 fun j hj => hall j (List.mem_range.1 hj))] at hX
    rw [hX]
    refine fun ρ S' w' hi => ⟨[den ρ (.sl 2), .int .i64 0], rfl, hi.below, ⟨?_, rfl, trivial⟩⟩
    exact hi.rep 40 (.sl 2) (.sl Tab inferInstance 3 tbE _) rfl rfl
  have hlt : i < N := by
    have : ((i : Nat) : Int) < (((rowS b a 2 N).length : Nat) : Int) := of_decide_eq_true hlt
    omega
  refine And.intro (show (0 : Int) ≤ (i : Int) ∧ (i : Int) < ((rowS b a 2 N).length : Int) from ⟨by omega, by omega⟩) ?_
  have hrn := rowS_nth b a 2 N i hlt
  have hwt := w2_range (hB.drop a.toNat) (2 + 2 * i)
  have eT : IntKind.i64.wrap (a + IntKind.i64.wrap (nth (rowS b a 2 N) i)) = lkT b a i := by
    rw [hrn, i64_id (w2 (b.drop a.toNat) (2 + 2 * i)) (by omega) (by omega), i64_id _ (by omega) (by omega)]; rfl
  have ht0 : 0 ≤ lkT b a i ∧ lkT b a i ≤ 1000000 := by unfold lkT; omega
  generalize hTT : lkT b a i = t at *
  have hok : okL b t = true → (fun i => lkAt b (lkT b a i)) i = lkAt b t := fun _ => by simp only; rw [hTT]
  have hidx : (((i : Nat) : Int)).toNat = i := Int.toNat_natCast i
  have htw : IntKind.i64.wrap t = t := i64_id _ (by omega) (by omega)
  have eT0 : IntKind.i64.wrap (a + IntKind.i64.wrap (nth (rowS b a 2 N) i)) = t + ((0 : Nat) : Int) := by rw [eT]; simp
  have eTc : ∀ c : Nat, c ≤ 10 → IntKind.i64.wrap (IntKind.i64.wrap (a + IntKind.i64.wrap (nth (rowS b a 2 N) i)) + (c : Int)) = t + (c : Int) := fun c hc => by rw [eT]; exact i64_id _ (by omega) (by omega)
  refine Or.inl ⟨_, fun ρ S w hm => room_w b t 6 _ _ (by omega) htw eT rfl _ w (hm.rp 0 rfl rfl), ?_⟩
  refine And.intro (fun h4 => ?_) (fun h4 => ?_)
  · have h4 : (!roomF b t 6) = true := h4
    unfold roomF at h4
    rw [Bool.not_not] at h4
    refine fun ρ S' w' hi => bad (badI i hlt ?_) w' hi.below
    rw [hTT]
    unfold okL
    rw [h4]; rfl
  have h4 : (!roomF b t 6) = false := h4
  unfold roomF at h4
  rw [Bool.not_not] at h4
  have hr6 := (outR_iff.1 h4).2.2
  have hk := w2_range (hB.drop t.toNat) 4
  refine Or.inl ⟨.int .u16 (w2 (b.drop t.toNat) 4), fun ρ S w hm => word_x b t _ 4 hB (by omega) ht0.1 (by omega) (eTc 4 (by decide)) _ w (hm.rp 0 rfl rfl), ?_⟩
  have hkk : lkK b t = w2 (b.drop t.toNat) 4 := rfl
  rw [← hkk] at hk ⊢
  have ek : IntKind.i64.wrap (lkK b t) = lkK b t := i64_id _ (by omega) (by omega)
  have e2k : IntKind.i64.wrap (2 * IntKind.i64.wrap (lkK b t)) = 2 * lkK b t := by rw [ek]; exact i64_id _ (by omega) (by omega)
  refine Or.inl ⟨_, fun _ ρ S w hm => room_w b (t + 6) (2 * lkK b t) _ _ (by omega) (i64_id _ (by omega) (by omega)) (eTc 6 (by decide)) e2k _ w (hm.rp 0 rfl rfl), ?_⟩
  refine Or.inl ⟨.int .u16 (w2 (b.drop t.toNat) 2), fun hg ρ S w hm => word_x b t _ 2 hB (by omega) ht0.1 (by omega) (eTc 2 (by decide)) _ w (hm.rp 0 rfl rfl), ?_⟩
  have hokE : okL b t = !(((decide (IntKind.i64.wrap (lkK b t) < 1) || decide (IntKind.i64.wrap (lkK b t) > 256)) || !roomF b (t + 6) (2 * lkK b t)) || decide (w2 (b.drop t.toNat) 2 > 15)) := by
    unfold okL roomF
    rw [h4, ek, Bool.not_not]
    have : decide (w2 (b.drop t.toNat) 2 > 15) = !decide (w2 (b.drop t.toNat) 2 ≤ 15) := by
      rw [← decide_not, decide_eq_decide]; omega
    rw [this]
    cases decide (lkK b t < 1) <;> cases decide (lkK b t > 256) <;> cases outR b (t + 6) (2 * lkK b t) <;> cases decide (w2 (b.drop t.toNat) 2 ≤ 15) <;> rfl
  refine And.intro (fun h5 => ?_) (fun h5 => ?_)
  · refine fun ρ S' w' hi => bad (badI i hlt ?_) w' hi.below
    rw [hTT, hokE, show (((decide (IntKind.i64.wrap (lkK b t) < 1) || decide (IntKind.i64.wrap (lkK b t) > 256)) || !roomF b (t + 6) (2 * lkK b t)) || decide (w2 (b.drop t.toNat) 2 > 15)) = true from h5]; rfl
  have hokT : okL b t = true := by
    rw [hokE, show (((decide (IntKind.i64.wrap (lkK b t) < 1) || decide (IntKind.i64.wrap (lkK b t) > 256)) || !roomF b (t + 6) (2 * lkK b t)) || decide (w2 (b.drop t.toNat) 2 > 15)) = false from h5]; rfl
  have h5 : (((decide (IntKind.i64.wrap (lkK b t) < 1) || decide (IntKind.i64.wrap (lkK b t) > 256)) || !roomF b (t + 6) (2 * lkK b t)) || decide (w2 (b.drop t.toNat) 2 > 15)) = false := h5
  rw [Bool.or_eq_false_iff, Bool.or_eq_false_iff, Bool.or_eq_false_iff, decide_eq_false_iff_not, decide_eq_false_iff_not, decide_eq_false_iff_not, ek] at h5
  obtain ⟨⟨⟨h51, h52⟩, h53⟩, h54⟩ := h5
  have hout6 : outR b (t + 6) (2 * lkK b t) = false := by
    unfold roomF at h53
    simpa using h53
  obtain ⟨M, hM⟩ : ∃ M : Nat, M = (lkK b t).toNat := ⟨_, rfl⟩
  have hMk : lkK b t = (M : Int) := by omega
  refine Or.inl ⟨.int .u16 (w2 (b.drop t.toNat) 0), fun ρ S w hm => word_x b t _ 0 hB (by omega) ht0.1 (by omega) eT0 _ w (hm.rp 0 rfl rfl), ?_⟩
  refine Or.inl ⟨.int .u16 (w2 (b.drop t.toNat) 2), fun ρ S w hm => word_x b t _ 2 hB (by omega) ht0.1 (by omega) (eTc 2 (by decide)) _ w (hm.rp 0 rfl rfl), ?_⟩
  refine Or.inr (lcall_fresh (t := 31) (sz := 1) (enc := hE) (rowS b t 6 M) (fun ρ S w hm => words_x b t _ _ 6 M hB (by omega) ht0.1 (eTc 6 (by decide)) (by rw [ek]; exact hMk) (by rw [← hMk]; exact hout6) _ w (hm.rp 0 rfl rfl)) ?_)
  have hml := rowS_len b t 6 M
  refine ⟨{ j : Nat // j ≤ M }, fun j => ⟨114, [⟨0, [], .bx 0 0⟩, ⟨1, [], .v (.int .i64 a)⟩, ⟨7, [], .sl 2⟩, ⟨10, [], .v (.int .i64 t)⟩, ⟨12, [], .bx 3 0⟩, ⟨38, [], .sl 1⟩, ⟨39, [], .v (.int .i64 ((rowS b a 2 N).length : Nat))⟩, ⟨40, [], .v (.int .i64 (i : Nat))⟩, ⟨92, [], .sl 5⟩, ⟨93, [], .v (.int .i64 ((rowS b t 6 M).length : Nat))⟩, ⟨94, [], .v (.int .i64 (j.1 : Nat))⟩], [.rp [] (rdD b), .own 31 Int inferInstance 1 hE (rowS b a 2 N), owT ((List.range i).map fun i => lkAt b (lkT b a i)), .bx 74 [.v (.int .u16 (w2 (b.drop t.toNat) 0)), .v (.int .u16 (flagF (w2 (b.drop t.toNat) 2))), .sl 4], owZ ((List.range j.1).map fun j => t + w2 (b.drop t.toNat) (6 + 2 * j)), .own 31 Int inferInstance 1 hE (rowS b t 6 M)], [], dropL nats 6⟩, fun j => M - j.1, ⟨[0, 1, 2, 3, 1000, 4], ⟨0, Nat.zero_le _⟩, ?_⟩, fun j => ?_⟩
  · exact And.intro (And.intro rfl (And.intro rfl (And.intro rfl (And.intro (svI eT) (And.intro rfl (And.intro rfl (And.intro rfl (And.intro rfl (And.intro rfl (And.intro rfl (And.intro rfl trivial))))))))))) (And.intro ⟨rfl, rfl⟩ (And.intro rfl (And.intro rfl (And.intro (And.intro rfl rfl) (And.intro rfl (And.intro rfl trivial))))))
  obtain ⟨j, hj⟩ := j
  refine And.intro (fun hjlt => ?_) (fun hjge => ?_)
  · have hjlt : j < M := by
      have : ((j : Nat) : Int) < (((rowS b t 6 M).length : Nat) : Int) := of_decide_eq_true hjlt
      omega
    refine And.intro (show (0 : Int) ≤ (j : Int) ∧ (j : Int) < ((rowS b t 6 M).length : Int) from ⟨by omega, by omega⟩) ?_
    have hwj := w2_range (hB.drop t.toNat) (6 + 2 * j)
    have ev : IntKind.i64.wrap (t + IntKind.i64.wrap (nth (rowS b t 6 M) j)) = t + w2 (b.drop t.toNat) (6 + 2 * j) := by
      rw [rowS_nth b t 6 M j hjlt, i64_id (w2 (b.drop t.toNat) (6 + 2 * j)) (by omega) (by omega), i64_id _ (by omega) (by omega)]
    refine ⟨[t + w2 (b.drop t.toNat) (6 + 2 * j)], ⟨rfl, congrArg (fun z : Int => [DV.v (Value.int IntKind.i64 z)]) ev, by simp⟩, by show (((List.range j).map fun j => t + w2 (b.drop t.toNat) (6 + 2 * j)).length + 1) * 8 ≤ _; rw [List.length_map, List.length_range]; omega, ?_⟩
    refine ⟨[0, 1, 2, 3, 7, 5], ⟨j + 1, hjlt⟩, And.intro (And.intro rfl (And.intro rfl (And.intro rfl (And.intro rfl (And.intro rfl (And.intro rfl (And.intro rfl (And.intro rfl (And.intro rfl (And.intro rfl (And.intro (svI (i64_succ j (by omega))) trivial))))))))))) (And.intro ⟨rfl, rfl⟩ (And.intro rfl (And.intro rfl (And.intro (And.intro rfl rfl) (And.intro (owZe ?_) (And.intro rfl trivial)))))), by show M - (j + 1) < M - j; omega⟩
    rw [List.range_succ, List.map_append]; rfl
  · have hjge : j = M := by
      have : ¬ ((j : Nat) : Int) < (((rowS b t 6 M).length : Nat) : Int) := of_decide_eq_false hjge
      omega
    subst hjge
    refine ⟨[lkAt b t], ⟨rfl, by unfold lkAt; rw [← hM]; rfl, by simp⟩, ?_, ?_⟩
    · show (((List.range i).map fun i => lkAt b (lkT b a i)).length + 1) * 32 ≤ _
      rw [List.length_map, List.length_range]
      omega
    refine ⟨[0, 1, 7], ⟨i + 1, hlt, fun q hq => ?_⟩, And.intro (And.intro rfl (And.intro rfl (And.intro rfl (And.intro rfl (And.intro rfl (And.intro (svI (i64_succ i (by omega))) trivial)))))) (And.intro ⟨rfl, rfl⟩ (And.intro rfl (And.intro (owTe ?_) trivial))), by show N - (i + 1) < N - i; omega⟩
    · by_cases e : q = i
      · rw [e, hTT]; exact hokT
      · exact hall q (by omega)
    · rw [List.range_succ, List.map_append, ← hTT]; rfl
end Go.Proofs.Ytalploampmdemaa
