/- cover.Features. -/
import Derived.Test.YtalploampmdemaaR18
set_option maxRecDepth 100000
set_option linter.unusedVariables false
namespace Go.Proofs.Ytalploampmdemaa
open Go Go.Eng Go.RowKit

/-- a feature: its name, its lookups -/
structure Feat where
  a : Int
  b : Int
  c : Int
  d : Int
  ks : List Int
deriving Inhabited
abbrev fE : Feat → List DV := fun f => [.v (.int .u8 f.a), .v (.int .u8 f.b), .v (.int .u8 f.c), .v (.int .u8 f.d), .sl Int inferInstance 1 zE f.ks]
abbrev owF (xs : List Feat) : Chunk := .own 52 Feat inferInstance 5 fE xs
def ksF (row : List Int) : List Int := Lib.compact (row.mergeSort fun x y => decide (x ≤ y))
def rowW (b : List Int) (t : Int) : List Int := (List.range (w2 (b.drop t.toNat) 2).toNat).map fun j => w2 (b.drop t.toNat) (4 + 2 * j)
def fT (b : List Int) (a : Int) (i : Nat) : Int := a + w2 (b.drop a.toNat) (6 * i + 6)
def okT (b : List Int) (t L : Int) : Bool := !outR b t 4 && decide (w2 (b.drop t.toNat) 0 = 0) && !outR b (t + 4) (2 * w2 (b.drop t.toNat) 2) && (rowW b t).all fun x => decide (x < L)
def fAt (b : List Int) (a : Int) (i : Nat) : Feat := ⟨nth (b.drop a.toNat) (6 * i + 2), nth (b.drop a.toNat) (6 * i + 3), nth (b.drop a.toNat) (6 * i + 4), nth (b.drop a.toNat) (6 * i + 5), ksF (rowW b (fT b a i))⟩
def fN (b : List Int) (a : Int) : Nat := (w2 (b.drop a.toNat) 0).toNat
def featX (b : List Int) (a L : Int) : Option (List Feat) :=
  if outR b a 2 = true then none
  else if 512 < fN b a ∨ outR b (a + 2) (6 * (fN b a : Int)) = true then none
  else if ((List.range (fN b a)).all fun i => okT b (fT b a i) L) = true then some ((List.range (fN b a)).map (fAt b a)) else none
def errF (o : Option (List Feat)) : Int := match o with | some _ => 0 | none => 50

theorem byte_w (b : List Int) (at' q : Int) (p : Nat) (hB : Byt b) (hb : b.length ≤ 1000000) (h0 : 0 ≤ at') (h : at' + p + 1 ≤ b.length) (hq : q = at' + p) (v : Value) (w : World) (hv : Rdr w v b) :
    Calls Try.prog 38 #[v, .int .i64 q] w fun e w' => e = .returned (.int .u8 (nth (b.drop at'.toNat) p)) ∧ Below w.heap.size w w' := by
  subst hq
  have hx := hB (at'.toNat + p)
  have e : IntKind.u8.wrap (numR b (at' + p) 1) = nth (b.drop at'.toNat) p := by
    unfold numR
    have hm : midL b (at' + (p : Int)).toNat (at' + (p : Int) + 1).toNat = [nth b (at'.toNat + p)] := by
      rw [show (at' + (p : Int)).toNat = at'.toNat + p by omega, show (at' + (p : Int) + 1).toNat = at'.toNat + p + 1 by omega]
      unfold midL
      rw [show at'.toNat + p + 1 - (at'.toNat + p) = 1 by omega]
      have hlt : at'.toNat + p < b.length := by omega
      rw [List.drop_eq_getElem_cons hlt, nthZ hlt]
      rfl
    rw [hm, nth_drop]
    show IntKind.u8.wrap (numS 0 (nth b (at'.toNat + p))) = _
    obtain ⟨y, hy⟩ : ∃ y : Nat, nth b (at'.toNat + p) = (y : Int) := ⟨(nth b (at'.toNat + p)).toNat, by omega⟩
    rw [hy] at hx ⊢
    rw [numS_zero y (by omega), IntKind.wrap_u8]
    omega
  rw [← e]
  exact byte_c b _ (by omega) (outR_iff.2 ⟨by omega, by omega, by omega⟩) v w hv

theorem rowW_range {b : List Int} (hB : Byt b) (t : Int) (j : Nat) (hj : j < (rowW b t).length) : 0 ≤ nth (rowW b t) j ∧ nth (rowW b t) j ≤ 65535 := by
  rw [nthZ hj]
  have hm := List.getElem_mem hj
  generalize (rowW b t)[j] = x at *
  unfold rowW at hm
  obtain ⟨q, _, rfl⟩ := List.mem_map.1 hm
  exact w2_range (hB.drop _) _
theorem row_eq {b : List Int} (hB : Byt b) (t : Int) : rowO (b.drop t.toNat) 4 (wd (b.drop t.toNat) 2).toNat = rowW b t := by
  unfold rowO rowW
  rw [wd_w2 (hB.drop _)]
  exact List.map_congr_left fun j _ => wo_w2 (hB.drop _) _
theorem row_eq2 {b : List Int} (hB : Byt b) (t : Int) : rowO (b.drop t.toNat) 4 (w2 (b.drop t.toNat) 2).toNat = rowW b t := by
  have := row_eq hB t
  rw [wd_w2 (hB.drop _)] at this
  exact this

theorem owZe {a b : List Int} (h : a = b) : owZ a = owZ b := by rw [h]
theorem owFe {a b : List Feat} (h : a = b) : owF a = owF b := by rw [h]
/-- what is handed back -/
def FeatR (o : Option (List Feat)) (S : Nat → Prop) (w : World) (e : Ending) (w' : World) : Prop :=
  ∃ us, e = .returned (.tuple us.toArray) ∧ Below w.heap.size w w' ∧ repYs (fun b => S b ∨ (w.heap.size ≤ b ∧ b < w'.heap.size)) w' [.sl Feat inferInstance 5 fE (o.getD []), .v (.int .i64 (errF o))] us

theorem feat_c (b : List Int) (a L : Int) (hB : Byt b) (hb : b.length ≤ 100000) (ha : IntKind.i64.wrap a = a) (v : Value) (w : World) (S : Nat → Prop) (hS : ∀ b, S b → b < w.heap.size) (hv : DRep S w (.ptr (rdD b)) v) :
    Calls Try.prog 23 #[v, .int .i64 a, .int .i64 L] w (FeatR (featX b a L) S w) := by
  obtain ⟨k, o, rfl⟩ : ∃ k o, v = .pointer (some ⟨k, o, none⟩) := by cases hv; exact ⟨_, _, rfl⟩
  refine calls_exec2 (cf := cf) cfok rfl rfl (fn := Try.f23) Try.func23 rfl [.bx 0 0, .v (.int .i64 a), .v (.int .i64 L)] [.rp [] (rdD b)] (ρ := fun _ => .pointer (some ⟨k, o, none⟩)) (· < w.heap.size) S rfl rfl rfl (by simp [svOkL, svOk]) rfl (memRd hS ⟨hv, trivial⟩) (fun b hb => ⟨hb, rd_own rfl b⟩) ?_
  have bad : featX b a L = none → ∀ w', Below w.heap.size w w' → FeatR (featX b a L) S w (.returned (.tuple #[.slice none 0 0, .int .i64 50])) w' := fun h w' hb => by
    rw [h]
    exact ⟨[.slice none 0 0, .int .i64 50], rfl, hb, ⟨DRep.sl none 0 0 0 (fun _ _ => undef) (Nat.le_refl _) (fun h => absurd rfl h) (fun i j d hi => absurd hi (Nat.not_lt_zero _)) (fun i j d hi => absurd hi (Nat.not_lt_zero _)), rfl, trivial⟩⟩
  refine Or.inl ⟨_, fun ρ S w hm => room_w b a 2 _ _ (by omega) ha rfl rfl _ w (hm.rp 0 rfl rfl), ?_⟩
  refine And.intro (fun h => ?_) (fun h => ?_)
  · have h : (!roomF b a 2) = true := h
    unfold roomF at h
    rw [Bool.not_not] at h
    exact fun ρ S' w' hi => bad (by unfold featX; rw [if_pos h]) w' hi.below
  have h : (!roomF b a 2) = false := h
  unfold roomF at h
  rw [Bool.not_not] at h
  obtain ⟨h0, _, h2⟩ := outR_iff.1 h
  have hw2 := w2_range (hB.drop a.toNat) 0
  refine Or.inl ⟨.int .u16 (w2 (b.drop a.toNat) 0), fun ρ S w hm => by
    have := word_w b a a 0 (by omega) h0 (by omega) (by simp) _ w (hm.rp 0 rfl rfl)
    rw [wd_w2 (hB.drop _)] at this
    exact this, ?_⟩
  have eN : IntKind.i64.wrap (w2 (b.drop a.toNat) 0) = ((fN b a : Nat) : Int) := by rw [i64_id _ (by omega) (by omega)]; unfold fN; omega
  have ha2 : IntKind.i64.wrap (a + 2) = a + 2 := i64_id _ (by omega) (by omega)
  have hN0 : fN b a ≤ 65535 := by unfold fN; omega
  have e6N : IntKind.i64.wrap (6 * IntKind.i64.wrap (w2 (b.drop a.toNat) 0)) = 6 * ((fN b a : Nat) : Int) := by rw [eN]; exact i64_id _ (by omega) (by omega)
  refine Or.inl ⟨.bool (roomF b (a + 2) (6 * (fN b a : Int))), fun _ ρ S w hm => room_w b (a + 2) _ _ _ (by omega) ha2 ha2 e6N _ w (hm.rp 0 rfl rfl), ?_⟩
  have hcond : (decide (IntKind.i64.wrap (w2 (b.drop a.toNat) 0) > 512) || !roomF b (a + 2) (6 * (fN b a : Int))) = decide (512 < fN b a ∨ outR b (a + 2) (6 * (fN b a : Int)) = true) := by
    rw [eN]
    unfold roomF
    rw [Bool.not_not, Bool.decide_or, Bool.decide_eq_true]
    congr 1
    rw [decide_eq_decide]
    omega
  refine And.intro (fun h3 => ?_) (fun h3 => ?_)
  · have h3 := of_decide_eq_true (hcond.symm.trans h3)
    exact fun ρ S' w' hi => bad (by unfold featX; rw [if_neg (by rw [h]; decide), if_pos h3]) w' hi.below
  have h3 := of_decide_eq_false (hcond.symm.trans h3)
  have hX : featX b a L = if ((List.range (fN b a)).all fun i => okT b (fT b a i) L) = true then some ((List.range (fN b a)).map (fAt b a)) else none := by
    unfold featX
    rw [if_neg (by rw [h]; decide), if_neg h3]
  have h512 : fN b a ≤ 512 := by omega
  have hroom : a + 2 + 6 * (fN b a : Int) ≤ b.length := by
    have : outR b (a + 2) (6 * (fN b a : Int)) = false := by
      cases hh : outR b (a + 2) (6 * (fN b a : Int)) with
      | true => exact absurd (Or.inr hh) h3
      | false => rfl
    exact (outR_iff.1 this).2.2
  generalize hNN : fN b a = N at *
  have badI : ∀ i, i < N → okT b (fT b a i) L = false → featX b a L = none := fun i hi hf => by
    rw [hX, if_neg (fun hall => by
      have := List.all_eq_true.1 hall i (List.mem_range.2 hi)
      rw [hf] at this
      cases this)]
  refine ⟨{ i : Nat // i ≤ N ∧ ∀ j, j < i → okT b (fT b a j) L = true }, fun i => ⟨130, [⟨0, [], .bx 0 0⟩, ⟨1, [], .v (.int .i64 a)⟩, ⟨2, [], .v (.int .i64 L)⟩, ⟨9, [], .sl 1⟩, ⟨35, [], .v (.int .i64 (N : Nat))⟩, ⟨36, [], .v (.int .i64 (i.1 : Nat))⟩], [.rp [] (rdD b), owF ((List.range i.1).map (fAt b a))], [], dropL nats 2⟩, fun i => N - i.1, ⟨[0, 1000], ⟨0, Nat.zero_le _, fun j hj => absurd hj (Nat.not_lt_zero _)⟩, ?_⟩, fun i => ?_⟩
  · exact And.intro (And.intro rfl (And.intro rfl (And.intro rfl (And.intro rfl (And.intro (svI eN) (And.intro rfl trivial)))))) (And.intro ⟨rfl, rfl⟩ (And.intro rfl trivial))
  obtain ⟨i, hi, hall⟩ := i
  refine And.intro (fun hlt => ?_) (fun hge => ?_)
  rotate_left
  · have hge : i = N := by
      have : ¬ ((i : Nat) : Int) < ((N : Nat) : Int) := of_decide_eq_false hge
      omega
    subst hge
    rw [if_pos (List.all_eq_true.2 fun j hj => hall j (List.mem_range.1 hj))] at hX
    rw [hX]
    refine fun ρ S' w' hi => ⟨[den ρ (.sl 1), .int .i64 0], rfl, hi.below, ⟨?_, rfl, trivial⟩⟩
    exact hi.rep 40 (.sl 1) (.sl Feat inferInstance 5 fE _) rfl rfl
  have hlt : i < N := by
    have : ((i : Nat) : Int) < ((N : Nat) : Int) := of_decide_eq_true hlt
    omega
  have eP : IntKind.i64.wrap (IntKind.i64.wrap (a + 2) + IntKind.i64.wrap (6 * (i : Int))) = a + ((6 * i + 2 : Nat) : Int) := by
    rw [ha2, i64_id (6 * (i : Int)) (by omega) (by omega), i64_id _ (by omega) (by omega)]; omega
  have eP1 : ∀ c : Nat, c ≤ 4 → IntKind.i64.wrap (IntKind.i64.wrap (IntKind.i64.wrap (a + 2) + IntKind.i64.wrap (6 * (i : Int))) + (c : Int)) = a + ((6 * i + (2 + c) : Nat) : Int) := fun c hc => by
    rw [eP, i64_id _ (by omega) (by omega)]; omega
  refine Or.inl ⟨_, fun ρ S w hm => byte_w b a _ (6 * i + 2) hB (by omega) h0 (by omega) eP _ w (hm.rp 0 rfl rfl), ?_⟩
  refine Or.inl ⟨_, fun ρ S w hm => byte_w b a _ (6 * i + 3) hB (by omega) h0 (by omega) (eP1 1 (by decide)) _ w (hm.rp 0 rfl rfl), ?_⟩
  refine Or.inl ⟨_, fun ρ S w hm => byte_w b a _ (6 * i + 4) hB (by omega) h0 (by omega) (eP1 2 (by decide)) _ w (hm.rp 0 rfl rfl), ?_⟩
  refine Or.inl ⟨_, fun ρ S w hm => byte_w b a _ (6 * i + 5) hB (by omega) h0 (by omega) (eP1 3 (by decide)) _ w (hm.rp 0 rfl rfl), ?_⟩
  have hwt := w2_range (hB.drop a.toNat) (6 * i + 6)
  refine Or.inl ⟨.int .u16 (w2 (b.drop a.toNat) (6 * i + 6)), fun ρ S w hm => by
    have := word_w b a _ (6 * i + 6) (by omega) h0 (by omega) (eP1 4 (by decide)) _ w (hm.rp 0 rfl rfl)
    rw [wd_w2 (hB.drop _)] at this
    exact this, ?_⟩
  have eT : IntKind.i64.wrap (a + IntKind.i64.wrap (w2 (b.drop a.toNat) (6 * i + 6))) = fT b a i := by
    rw [i64_id (w2 (b.drop a.toNat) (6 * i + 6)) (by omega) (by omega), i64_id _ (by omega) (by omega)]; rfl
  have ht0 : 0 ≤ fT b a i ∧ fT b a i ≤ 1000000 := by unfold fT; omega
  generalize hTT : fT b a i = t at *
  have eT0 : IntKind.i64.wrap (a + IntKind.i64.wrap (w2 (b.drop a.toNat) (6 * i + 6))) = t + ((0 : Nat) : Int) := by rw [eT]; simp
  have htw : IntKind.i64.wrap t = t := i64_id _ (by omega) (by omega)
  have ht4 : IntKind.i64.wrap (IntKind.i64.wrap (a + IntKind.i64.wrap (w2 (b.drop a.toNat) (6 * i + 6))) + 4) = t + 4 := by rw [eT]; exact i64_id _ (by omega) (by omega)
  have ht2 : IntKind.i64.wrap (IntKind.i64.wrap (a + IntKind.i64.wrap (w2 (b.drop a.toNat) (6 * i + 6))) + 2) = t + ((2 : Nat) : Int) := by rw [eT]; exact i64_id _ (by omega) (by omega)
  have hwk := w2_range (hB.drop t.toNat) 2
  have ek : IntKind.i64.wrap (w2 (b.drop t.toNat) 2) = w2 (b.drop t.toNat) 2 := i64_id _ (by omega) (by omega)
  have ekN : IntKind.i64.wrap (w2 (b.drop t.toNat) 2) = (((w2 (b.drop t.toNat) 2).toNat : Nat) : Int) := by rw [ek]; omega
  have e2k : IntKind.i64.wrap (2 * IntKind.i64.wrap (w2 (b.drop t.toNat) 2)) = 2 * w2 (b.drop t.toNat) 2 := by rw [ek]; exact i64_id _ (by omega) (by omega)
  have inT : roomF b t 4 = true → t + 4 ≤ b.length := fun h => by
    unfold roomF at h
    rw [Bool.not_eq_true'] at h
    exact (outR_iff.1 h).2.2
  refine Or.inl ⟨_, fun ρ S w hm => room_w b t 4 _ _ (by omega) htw eT rfl _ w (hm.rp 0 rfl rfl), ?_⟩
  refine Or.inl ⟨.int .u16 (w2 (b.drop t.toNat) 0), fun hg ρ S w hm => by
    have hg : (!roomF b t 4) = false := hg
    have hr := inT (by simpa using hg)
    have := word_w b t _ 0 (by omega) ht0.1 (by omega) eT0 _ w (hm.rp 0 rfl rfl)
    rw [wd_w2 (hB.drop _)] at this
    exact this, ?_⟩
  refine Or.inl ⟨.int .u16 (w2 (b.drop t.toNat) 2), fun hg ρ S w hm => by
    have hg : (!roomF b t 4 || !decide (w2 (b.drop t.toNat) 0 = 0)) = false := hg
    rw [Bool.or_eq_false_iff] at hg
    have hr := inT (by simpa using hg.1)
    have := word_w b t _ 2 (by omega) ht0.1 (by omega) ht2 _ w (hm.rp 0 rfl rfl)
    rw [wd_w2 (hB.drop _)] at this
    exact this, ?_⟩
  refine Or.inl ⟨_, fun _ ρ S w hm => room_w b (t + 4) (2 * w2 (b.drop t.toNat) 2) _ _ (by omega) (i64_id _ (by omega) (by omega)) ht4 e2k _ w (hm.rp 0 rfl rfl), ?_⟩
  refine And.intro (fun h4 => ?_) (fun h4 => ?_)
  · refine fun ρ S' w' hi => bad (badI i hlt ?_) w' hi.below
    replace h4 : ((!roomF b t 4 || !decide (w2 (b.drop t.toNat) 0 = 0)) || !roomF b (t + 4) (2 * w2 (b.drop t.toNat) 2)) = true := h4
    rw [hTT]
    unfold okT
    unfold roomF at h4
    cases h1 : outR b t 4 <;> cases h2 : decide (w2 (b.drop t.toNat) 0 = 0) <;> cases h3 : outR b (t + 4) (2 * w2 (b.drop t.toNat) 2) <;> simp_all
  replace h4 : ((!roomF b t 4 || !decide (w2 (b.drop t.toNat) 0 = 0)) || !roomF b (t + 4) (2 * w2 (b.drop t.toNat) 2)) = false := h4
  rw [Bool.or_eq_false_iff, Bool.or_eq_false_iff] at h4
  obtain ⟨⟨h41, h42⟩, h43⟩ := h4
  have hr4 := inT (by simpa using h41)
  have hout4 : outR b (t + 4) (2 * w2 (b.drop t.toNat) 2) = false := by
    unfold roomF at h43
    simpa using h43
  have hw0 : w2 (b.drop t.toNat) 0 = 0 := by simpa using h42
  have hout : outR b t 4 = false := by
    unfold roomF at h41
    simpa using h41
  refine Or.inl ⟨.int .u16 (w2 (b.drop t.toNat) 2), fun ρ S w hm => by
    have := word_w b t _ 2 (by omega) ht0.1 (by omega) ht2 _ w (hm.rp 0 rfl rfl)
    rw [wd_w2 (hB.drop _)] at this
    exact this, ?_⟩
  refine Or.inr (lcall_fresh (t := 31) (sz := 1) (enc := hE) (rowW b t) (fun ρ S w hm => by
    have := words_w b t _ _ 4 (w2 (b.drop t.toNat) 2).toNat (by omega) ht0.1 ht4 ekN (by rw [Int.toNat_of_nonneg hwk.1]; exact hout4) _ w (hm.rp 0 rfl rfl)
    rw [row_eq2 hB] at this
    exact this) ?_)
  have hrl : (rowW b t).length ≤ 65535 := by unfold rowW; rw [List.length_map, List.length_range]; omega
  have hrr := rowW_range hB t
  have hok : okT b t L = ((rowW b t).all fun x => decide (x < L)) := by
    unfold okT
    rw [hout, hw0, hout4]
    rfl
  have hfat : fAt b a i = ⟨nth (b.drop a.toNat) (6 * i + 2), nth (b.drop a.toNat) (6 * i + 3), nth (b.drop a.toNat) (6 * i + 4), nth (b.drop a.toNat) (6 * i + 5), ksF (rowW b t)⟩ := by unfold fAt; rw [hTT]
  generalize rowW b t = row at *
  refine ⟨{ j : Nat // j ≤ row.length ∧ ∀ q, q < j → nth row q < L }, fun j => ⟨130, [⟨0, [], .bx 0 0⟩, ⟨1, [], .v (.int .i64 a)⟩, ⟨2, [], .v (.int .i64 L)⟩, ⟨9, [], .sl 1⟩, ⟨12, [], .bx 2 0⟩, ⟨35, [], .v (.int .i64 (N : Nat))⟩, ⟨36, [], .v (.int .i64 (i : Nat))⟩, ⟨99, [], .sl 4⟩, ⟨100, [], .v (.int .i64 (row.length : Nat))⟩, ⟨101, [], .v (.int .i64 (j.1 : Nat))⟩],
      [.rp [] (rdD b), owF ((List.range i).map (fAt b a)), .bx 52 [.v (.int .u8 (nth (b.drop a.toNat) (6 * i + 2))), .v (.int .u8 (nth (b.drop a.toNat) (6 * i + 3))), .v (.int .u8 (nth (b.drop a.toNat) (6 * i + 4))), .v (.int .u8 (nth (b.drop a.toNat) (6 * i + 5))), .sl 3], owZ (row.take j.1), .own 31 Int inferInstance 1 hE row], [], dropL nats 5⟩, fun j => row.length - j.1, ⟨[0, 1, 2, 1000, 3], ⟨0, Nat.zero_le _, fun q hq => absurd hq (Nat.not_lt_zero _)⟩, ?_⟩, fun j => ?_⟩
  · exact And.intro (And.intro rfl (And.intro rfl (And.intro rfl (And.intro rfl (And.intro rfl (And.intro rfl (And.intro rfl (And.intro rfl (And.intro rfl (And.intro rfl trivial)))))))))) (And.intro ⟨rfl, rfl⟩ (And.intro rfl (And.intro (And.intro rfl rfl) (And.intro rfl (And.intro rfl trivial)))))
  obtain ⟨j, hj, hjall⟩ := j
  refine And.intro (fun hjlt => ?_) (fun hjge => ?_)
  · have hjlt : j < row.length := by
      have : ((j : Nat) : Int) < ((row.length : Nat) : Int) := of_decide_eq_true hjlt
      omega
    have hjr := hrr j hjlt
    have ej : IntKind.i64.wrap (nth row j) = nth row j := i64_id _ (by omega) (by omega)
    refine And.intro (show (0 : Int) ≤ ((j : Nat) : Int) ∧ ((j : Nat) : Int) < ((row.length : Nat) : Int) from ⟨by omega, by omega⟩) ?_
    refine And.intro (fun hb2 => ?_) (fun hb2 => ?_)
    · have hb2 : IntKind.i64.wrap (nth row j) ≥ L := of_decide_eq_true hb2
      rw [ej] at hb2
      refine fun ρ S' w' hi => bad (badI i hlt ?_) w' hi.below
      rw [hTT, hok]
      rw [Bool.eq_false_iff]
      intro hh
      have := of_decide_eq_true (List.all_eq_true.1 hh (nth row j) (by rw [nthZ hjlt]; exact List.getElem_mem _))
      omega
    · have hb2 : ¬ IntKind.i64.wrap (nth row j) ≥ L := of_decide_eq_false hb2
      rw [ej] at hb2
      refine ⟨[nth row j], ⟨rfl, congrArg (fun z : Int => [DV.v (Value.int IntKind.i64 z)]) ej, by simp⟩, by show ((row.take j).length + 1) * 8 ≤ _; rw [List.length_take]; omega, ?_⟩
      refine ⟨[0, 1, 2, 6, 4], ⟨j + 1, hjlt, fun q hq => ?_⟩, And.intro (And.intro rfl (And.intro rfl (And.intro rfl (And.intro rfl (And.intro rfl (And.intro rfl (And.intro rfl (And.intro rfl (And.intro rfl (And.intro (svI (i64_succ j (by omega))) trivial)))))))))) (And.intro ⟨rfl, rfl⟩ (And.intro rfl (And.intro (And.intro rfl rfl) (And.intro (owZe ?_) (And.intro rfl trivial))))), by show row.length - (j + 1) < row.length - j; omega⟩
      · by_cases e : q = j
        · subst e; omega
        · exact hjall q (by omega)
      · rw [List.take_succ_eq_append_getElem hjlt, ← nthZ hjlt]
  · have hjge : j = row.length := by
      have : ¬ ((j : Nat) : Int) < ((row.length : Nat) : Int) := of_decide_eq_false hjge
      omega
    subst hjge
    have hokT : okT b t L = true := by
      rw [hok]
      refine List.all_eq_true.2 fun x hx => decide_eq_true ?_
      obtain ⟨q, hq, rfl⟩ := List.getElem_of_mem hx
      have := hjall q hq
      rw [nthZ hq] at this
      exact this
    have hs := sort_s (row.take row.length) (by rw [List.take_length]; omega)
    rw [List.take_length] at hs
    refine Or.inr (lcall_sub [3] hs rfl rfl rfl rfl rfl (And.intro (owZe List.take_length) trivial) ?_)
    have hsl : (row.mergeSort fun x y => decide (x ≤ y)).length = row.length := List.length_mergeSort _
    refine Or.inr (lcall_sub [3] (compact_s (row.mergeSort fun x y => decide (x ≤ y)) (by omega)) rfl rfl rfl rfl rfl (And.intro rfl trivial) ?_)
    refine ⟨[⟨nth (b.drop a.toNat) (6 * i + 2), nth (b.drop a.toNat) (6 * i + 3), nth (b.drop a.toNat) (6 * i + 4), nth (b.drop a.toNat) (6 * i + 5), ksF row⟩], ⟨rfl, rfl, by simp⟩, ?_, ?_⟩
    · show (((List.range i).map (fAt b a)).length + 1) * 32 ≤ _
      rw [List.length_map, List.length_range]
      omega
    refine ⟨[0, 7], ⟨i + 1, hlt, fun q hq => ?_⟩, And.intro (And.intro rfl (And.intro rfl (And.intro rfl (And.intro rfl (And.intro rfl (And.intro (svI (i64_succ i (by omega))) trivial)))))) (And.intro ⟨rfl, rfl⟩ (And.intro (owFe ?_) trivial)), by show N - (i + 1) < N - i; omega⟩
    · by_cases e : q = i
      · subst e; rw [hTT]; exact hokT
      · exact hall q (by omega)
    · rw [List.range_succ, List.map_append, ← hfat]; rfl
end Go.Proofs.Ytalploampmdemaa
