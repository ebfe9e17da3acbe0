/- The reference's Head; its parser's words, counts, coverages, points. -/
import Derived.Test.YtjflgkadagkllaaGreatP1
set_option maxRecDepth 100000
set_option linter.unusedVariables false
namespace Go.Proofs.YtjflgkadagkllaaGreat
open Go Go.Eng Go.RowKit
theorem w7_c (b : List Int) (at' : Int) (hB : Byt b) (hb : b.length <= 1099511627776) (ha : IntKind.i64.wrap at' = at') (v : Value) (w : World) (hv : Rd w v 1 bE b) :
 Calls Tryz.prog 57 #[v, .int .i64 at'] w fun e w' => e = .returned (.int .i64 (wF b at')) /\ Below w.heap.size w w' := by
 refine calls_exec (cf := cf) cfok (fn := Tryz.f57) Tryz.func57 rfl [.sl 0, .v (.int .i64 at')] [.rd Int inferInstance 1 bE b] (ρ := fun _ => v) (· < w.heap.size) rfl rfl rfl (by simp [svOkL, svOk]) (memRd (fun _ h => h) ⟨hv, trivial⟩) ?_
 refine Or.inl ⟨_, fun ρ S w hm => numB_c b at' hB hb ha _ w (hm.rd 0 rfl rfl), ?_⟩
 have h := wF_range hB at'
 refine fun ρ S w' hi => ⟨?_, hi.below⟩
 show Ending.returned (.int .i64 (IntKind.i64.wrap (wF b at'))) = _
 rw [i64_id _ (by omega) (by omega)]
def hd1 (b : List Int) : Bool := (decide ((b.length : Int) < 10) || !decide (wF b 0 = 1)) || !decide (wF b 2 = 0)
def headT (b : List Int) : List Tab := if hd1 b = true then [] else (lookX b (wF b 8)).getD []
def headF (b : List Int) : List Feat := if hd1 b = true then [] else match lookX b (wF b 8) with | none => [] | some ts => (featX b (wF b 6) (ts.length : Int)).getD []
def headO (b : List Int) : Bool := if hd1 b = true then false else match lookX b (wF b 8) with | none => false | some ts => (featX b (wF b 6) (ts.length : Int)).isSome
def HeadR (b : List Int) (S : Nat -> Prop) (w : World) (e : Ending) (w' : World) : Prop :=
 ∃ us, e = .returned (.tuple us.toArray) /\ Below w.heap.size w w' /\ repYs (fun b => S b \/ (w.heap.size <= b /\ b < w'.heap.size)) w' [.sl Feat inferInstance 5 fE (headF b), .sl Tab inferInstance 3 tbE (headT b), .v (.bool (headO b))] us
theorem look_len {b : List Int} {a : Int} {ts : List Tab} (h : lookX b a = some ts) : ts.length <= 256 := by
 unfold lookX at h
 split at h
 · cases h
 · split at h
   · cases h
   · split at h
     · rename_i h1 h2 h3
       have e := Option.some.inj h
       subst e
       rw [List.length_map, List.length_range]; omega
     · cases h
theorem rhead_c (b : List Int) (hB : Byt b) (hb : b.length <= 3000) (v : Value) (w : World) (S : Nat -> Prop) (hS : ∀ b, S b -> b < w.heap.size) (hv : DRep S w (.sl Int inferInstance 1 bE b) v) :
 Calls Tryz.prog 44 #[v] w (HeadR b S w) := by
 refine calls_exec2 (cf := cf) cfok rfl rfl (fn := Tryz.f44) Tryz.func44 rfl [.sl 0] [.rd Int inferInstance 1 bE b] (ρ := fun _ => v) (· < w.heap.size) S rfl rfl rfl (by simp [svOkL, svOk]) rfl (memRd hS ⟨hv, trivial⟩) (fun b hb => ⟨hb, rd_own rfl b⟩) ?_
 have bad : headF b = [] -> headT b = [] -> headO b = false -> ∀ w', Below w.heap.size w w' -> HeadR b S w (.returned (.tuple #[.slice none 0 0, .slice none 0 0, .bool false])) w' := fun h1 h2 h3 w' hb => by
  unfold HeadR
  rw [h1, h2, h3]
  exact ⟨[.slice none 0 0, .slice none 0 0, .bool false], rfl, hb, ⟨DRep.nil, DRep.nil, rfl, trivial⟩⟩
 have w6r := wF_range hB 6
 have w8r := wF_range hB 8
 refine Or.inl ⟨.int .i64 (wF b 0), fun _ ρ S w hm => w7_c b 0 hB (by omega) (i64_id _ (by omega) (by omega)) _ w (hm.rd 0 rfl rfl), ?_⟩
 refine Or.inl ⟨.int .i64 (wF b 2), fun _ ρ S w hm => w7_c b 2 hB (by omega) (i64_id _ (by omega) (by omega)) _ w (hm.rd 0 rfl rfl), ?_⟩
 refine aI (fun h => ?_) (fun h => ?_)
 · have h : hd1 b = true := h
   exact fun ρ S' w' hi => bad (by unfold headF; rw [if_pos h]) (by unfold headT; rw [if_pos h]) (by unfold headO; rw [if_pos h]) w' hi.below
 have h : hd1 b = false := h
 have eT : headT b = (lookX b (wF b 8)).getD [] := by unfold headT; rw [h]; rfl
 have eF : headF b = match lookX b (wF b 8) with | none => [] | some ts => (featX b (wF b 6) (ts.length : Int)).getD [] := by unfold headF; rw [h]; rfl
 have eO : headO b = match lookX b (wF b 8) with | none => false | some ts => (featX b (wF b 6) (ts.length : Int)).isSome := by unfold headO; rw [h]; rfl
 refine Or.inl ⟨.int .i64 (wF b 8), fun ρ S w hm => w7_c b 8 hB (by omega) (i64_id _ (by omega) (by omega)) _ w (hm.rd 0 rfl rfl), ?_⟩
 cases hlk : lookX b (wF b 8) with
 | none =>
  rw [hlk] at eT eF eO
  refine Or.inr (lcall_reps [.sl Tab inferInstance 3 tbE [], .v (.int .i64 50)] (fun ρ S w hm => by
   have := rlook_c b (wF b 8) hB hb ⟨by omega, by omega⟩ _ w S hm.lt (hm.rdS 0 rfl rfl)
   rw [hlk] at this
   exact this) ?_)
  refine aI (fun _ => ?_) (fun h => by cases h)
  exact fun ρ S' w' hi => bad eF eT eO w' hi.below
 | some ts =>
 rw [hlk] at eT eF eO
 have hlen := look_len hlk
 have eT : headT b = ts := eT
 refine Or.inr (lcall_reps [.sl Tab inferInstance 3 tbE ts, .v (.int .i64 0)] (fun ρ S w hm => by
  have := rlook_c b (wF b 8) hB hb ⟨by omega, by omega⟩ _ w S hm.lt (hm.rdS 0 rfl rfl)
  rw [hlk] at this
  exact this) ?_)
 refine aI (fun h => by cases h) (fun _ => ?_)
 refine Or.inl ⟨.int .i64 (wF b 6), fun ρ S w hm => w7_c b 6 hB (by omega) (i64_id _ (by omega) (by omega)) _ w (hm.rd 0 rfl rfl), ?_⟩
 simp only at eF eO
 cases hft : featX b (wF b 6) (ts.length : Int) with
 | none =>
  rw [hft] at eF eO
  refine Or.inr (lcall_reps [.sl Feat inferInstance 5 fE [], .v (.int .i64 50)] (fun ρ S w hm => by
   have := reff_c b (wF b 6) (ts.length : Int) hB hb (i64_id _ (by omega) (by omega)) (ks_sel _) _ w S hm.lt (hm.rdS 0 rfl rfl)
   rw [hft] at this
   exact this) ?_)
  have eF : headF b = [] := eF
  have eO : headO b = false := eO
  unfold HeadR
  rw [eF, eT, eO]
  refine fun ρ S' w' hi => ⟨[den ρ (.sl 2), den ρ (.sl 1), .bool false], rfl, hi.below, ⟨?_, ?_, rfl, trivial⟩⟩
  · exact hi.rep 40 (.sl 2) (.sl Feat inferInstance 5 fE _) rfl rfl
  · exact hi.rep 40 (.sl 1) (.sl Tab inferInstance 3 tbE _) rfl rfl
 | some fs =>
  rw [hft] at eF eO
  refine Or.inr (lcall_reps [.sl Feat inferInstance 5 fE fs, .v (.int .i64 0)] (fun ρ S w hm => by
   have := reff_c b (wF b 6) (ts.length : Int) hB hb (i64_id _ (by omega) (by omega)) (ks_sel _) _ w S hm.lt (hm.rdS 0 rfl rfl)
   rw [hft] at this
   exact this) ?_)
  have eF : headF b = fs := eF
  have eO : headO b = true := eO
  unfold HeadR
  rw [eF, eT, eO]
  refine fun ρ S' w' hi => ⟨[den ρ (.sl 2), den ρ (.sl 1), .bool true], rfl, hi.below, ⟨?_, ?_, rfl, trivial⟩⟩
  · exact hi.rep 40 (.sl 2) (.sl Feat inferInstance 5 fE _) rfl rfl
  · exact hi.rep 40 (.sl 1) (.sl Tab inferInstance 3 tbE _) rfl rfl
theorem cells4 {a b c d a' b' c' d' : SV} (h1 : a = a') (h2 : b = b') (h3 : c = c') (h4 : d = d') : [a, b, c, d] = [a', b', c', d'] := by rw [h1, h2, h3, h4]
abbrev paR (b : List Int) (g s : Int) (q : Bool) : List Chunk := [.rd Int inferInstance 1 bE b, .bx 133 [.sl 0, .v (.int .i64 g), .v (.int .i64 s), .v (.bool q)]]
theorem rword_s (b : List Int) (g s a : Int) (q : Bool) (hB : Byt b) (hb : b.length <= 3000) (ha : IntKind.i64.wrap a = a) : LCall Tryz.prog ⟨0, [], paR b g s q, [], []⟩ 61 [.bx 1 0, .v (.int .i64 a)]
 (fun st' r => st'.ch = paR b g s (q || outR b a 2) /\ r = .v (.int .i64 (wF b a))) := by
 refine lcall_exec (cf := cf) cfok (fn := Tryz.f61) Tryz.func61 rfl _ _ (paR b g s (q || outR b a 2)) (.v (.int .i64 (wF b a))) rfl rfl (by simp [svOkL, svOk]) rfl (by exact ⟨⟨Nat.le_refl _, rfl⟩, trivial, trivial⟩) rfl rfl ?_
 refine Or.inl ⟨.bool (roomF b a 2), fun ρ S w hm => allB_c b a 2 (by omega) ha _ w (hm.rd 0 rfl rfl), ?_⟩
 refine aI (fun h => ?_) (fun h => ?_)
 · have h : (!roomF b a 2) = true := h
   unfold roomF at h
   rw [Bool.not_not] at h
   have e0 : wF b a = 0 := by unfold wF; rw [if_pos h]
   rw [h, e0, Bool.or_true]
   exact ⟨[0, 1], rfl, rfl, rfl, (aI rfl (aI (aI rfl rfl) trivial)), rfl⟩
 have h : (!roomF b a 2) = false := h
 unfold roomF at h
 rw [Bool.not_not] at h
 refine Or.inl ⟨_, fun ρ S w hm => numB_c b a hB (by omega) ha _ w (hm.rd 0 rfl rfl), ?_⟩
 have hr := wF_range hB a
 rw [h, Bool.or_false]
 exact ⟨[0, 1], rfl, rfl, rfl, (aI rfl (aI (aI rfl rfl) trivial)), svI (i64_id _ (by omega) (by omega))⟩
theorem rcount_s (b : List Int) (g s n : Int) (q : Bool) (hs : 0 <= s /\ s <= 1000000) (hn : 0 <= n /\ n <= 100000) : LCall Tryz.prog ⟨0, [], paR b g s q, [], []⟩ 62 [.bx 1 0, .v (.int .i64 n)]
 (fun st' r => st'.ch = paR b g (s + n) (q || decide (s + n > 65536)) /\ r = .tup []) := by
 refine lcall_exec (cf := cf) cfok (fn := Tryz.f62) Tryz.func62 rfl _ _ (paR b g (s + n) (q || decide (s + n > 65536))) (.tup []) rfl rfl (by simp [svOkL, svOk]) rfl (by exact ⟨⟨Nat.le_refl _, rfl⟩, trivial, trivial⟩) rfl rfl ?_
 have e : IntKind.i64.wrap (s + n) = s + n := i64_id _ (by omega) (by omega)
 refine aI (fun h => ?_) (fun h => ?_)
 · have h : decide (IntKind.i64.wrap (s + n) > 65536) = true := h
   rw [e] at h
   rw [h, Bool.or_true]
   exact ⟨[0, 1], rfl, rfl, rfl, aI rfl (aI (aI rfl (cells4 rfl rfl (svI e) rfl)) trivial), rfl⟩
 have h : decide (IntKind.i64.wrap (s + n) > 65536) = false := h
 rw [e] at h
 rw [h, Bool.or_false]
 exact ⟨[0, 1], rfl, rfl, rfl, aI rfl (aI (aI rfl (cells4 rfl rfl (svI e) rfl)) trivial), rfl⟩
end Go.Proofs.YtjflgkadagkllaaGreat
