/- gpos.parser.count, set, point; the kinds of subtables. -/
import Derived.Test.YtjflgkadagkllaaGreatN2
set_option maxRecDepth 100000
set_option linter.unusedVariables false
namespace Go.Proofs.YtjflgkadagkllaaGreat
open Go Go.Eng Go.RowKit
theorem count_s (b : List Int) (g s n : Int) (hs : 0 <= s /\ s <= 65536) (hn : 0 <= n /\ n <= 100000) : LCall Tryz.prog ⟨0, [], paC b g s, [], []⟩ 111 [.bx 3 0, .v (.int .i64 n)]
 (fun st' r => s + n <= 65536 /\ st'.ch = paC b g (s + n) /\ r = .tup []) (fun pc' st' => 65536 < s + n /\ st'.ch = deC b /\ pc' = wrongP) := by
 refine lcall_execP (cf := cf) cfok (fn := Tryz.f111) Tryz.func111 rfl _ _ _ (paC b g (s + n)) (.tup []) _ (deC b) wrongP rfl rfl (by simp [svOkL, svOk]) rfl (by exact ⟨trivial, ⟨Nat.le_refl _, rfl⟩, trivial, trivial, trivial⟩) (by exact ⟨trivial, ⟨Nat.le_refl _, rfl⟩, trivial, trivial, trivial⟩) rfl rfl rfl ?_
 have e : IntKind.i64.wrap (s + n) = s + n := i64_id _ (by omega) (by omega)
 refine Or.inr (lcall_need _ (fun h => ?_) (fun h => ?_))
 · have h : IntKind.i64.wrap (s + n) <= 65536 := of_decide_eq_true h
   rw [e] at h
   exact ⟨h, [0, 1, 2, 3], rfl, rfl, rfl, aI (aI rfl rfl) (aI rfl (aI (aI rfl rfl) (aI (aI rfl (congrArg (fun z : Int => [SV.bx 2 0, .v (.int .i64 g), .v (.int .i64 z)]) e)) trivial))), rfl⟩
 · have h : ¬ IntKind.i64.wrap (s + n) <= 65536 := of_decide_eq_false h
   rw [e] at h
   exact ⟨by omega, rfl, [0, 1, 2, 3], rfl, rfl, rfl, aI trivial (aI rfl (aI trivial (aI trivial trivial)))⟩
def setX (b : List Int) (g a s : Int) : Option (List Int × Int) :=
 match covX b a g with
 | none => none
 | some l => if s + (l.length : Int) <= 65536 then some (l, s + (l.length : Int)) else none
theorem finC_len {l r : List Int} (h : finC l = some r) : r = l /\ 0 < r.length /\ r.length <= 65535 := by
 unfold finC at h
 split at h
 · rename_i hh; cases h; exact ⟨rfl, hh.1, hh.2⟩
 · cases h
theorem covX_len {b : List Int} {a g : Int} {l : List Int} (h : covX b a g = some l) : 0 < l.length /\ l.length <= 65535 := by
 unfold covX at h
 split at h
 · cases h
 · split at h
   · split at h
     · cases h
     · unfold cov1 at h
       split at h
       · exact (finC_len h).2
       · cases h
   · split at h
     · split at h
       · cases h
       · unfold cov2 at h
         split at h
         · exact (finC_len h).2
         · cases h
     · cases h
theorem setX_len {b : List Int} {g a s : Int} {r : List Int × Int} (h : setX b g a s = some r) : covX b a g = some r.1 /\ r.2 = s + (r.1.length : Int) /\ r.2 <= 65536 /\ 0 < r.1.length /\ r.1.length <= 65535 := by
 unfold setX at h
 split at h
 · cases h
 · rename_i l hl
   split at h
   · rename_i hh
     cases h
     exact ⟨hl, rfl, hh, covX_len hl⟩
   · cases h
abbrev owW (l : List Int) : Chunk := .own 34 Int inferInstance 1 hE l
theorem set_s (b : List Int) (g a s : Int) (hb : b.length <= 100000) (ha : IntKind.i64.wrap a = a) (hs : 0 <= s /\ s <= 65536) (X : Option (List Int × Int)) (hX : setX b g a s = X) : LCall Tryz.prog ⟨0, [], paC b g s, [], []⟩ 113 [.bx 3 0, .v (.int .i64 a)]
 (fun st' r => X ≠ none /\ st'.ch = paC b g (X.getD ([], 0)).2 ++ [owW (X.getD ([], 0)).1] /\ r = .sl 4) (fun pc' st' => X = none /\ st'.ch = deC b /\ pc' = wrongP) := by
 refine lcall_execP (cf := cf) cfok (fn := Tryz.f113) Tryz.func113 rfl _ _ _ (paC b g (X.getD ([], 0)).2 ++ [owW (X.getD ([], 0)).1]) (.sl 4) _ (deC b) wrongP rfl rfl (by simp [svOkL, svOk]) rfl (by exact ⟨trivial, ⟨Nat.le_refl _, rfl⟩, trivial, trivial, trivial⟩) (by exact ⟨trivial, ⟨Nat.le_refl _, rfl⟩, trivial, trivial, trivial⟩) rfl rfl rfl ?_
 cases hc : covX b a g with
 | none =>
  have hXn : X = none := by rw [<- hX]; unfold setX; rw [hc]
  refine Or.inl ⟨by kernel_rfl, ⟨.tuple #[.slice none 0 0, .int .i64 50], fun ρ S w hm => (cov_c b a g (by omega) ha _ w (hm.rep 40 (.bx 2 0) (.ptr (rdD b)) rfl rfl)).mono fun e w' hh => ?_, ?_⟩⟩
  · rcases hh with ⟨_, h1, h2⟩ | ⟨l, u, h1, _⟩
    · exact ⟨h1, h2⟩
    · rw [hc] at h1; cases h1
  refine Or.inr (lcall_need false (fun h => by cases h) (fun _ => ?_))
  exact ⟨hXn, rfl, [0, 1, 2, 3], rfl, rfl, rfl, aI trivial (aI rfl (aI trivial (aI trivial trivial)))⟩
 | some l =>
  have hl := covX_len hc
  refine Or.inr (Or.inr (Or.inl ⟨[0, 1, 2, 3, 4, 5, 6, 7, 8, 9, 10, 11, 12, 13, 14], [9], [], by kernel_rfl, ?_⟩))
  refine mcall_fresh2 (t := 34) (sz := 1) (enc := hE) l (.int .i64 0) (fun ρ S w hm => (cov_c b a g (by omega) ha _ w (hm.rep 40 (.bx 2 0) (.ptr (rdD b)) rfl rfl)).mono fun e w' hh => ?_) ?_
  · rcases hh with ⟨h0, _, _⟩ | ⟨l', u, h1, h2, h3, h4⟩
    · rw [hc] at h0; cases h0
    · rw [hc] at h1; cases h1; exact ⟨u, h2, h3, h4⟩
  refine Or.inr (lcall_need true (fun _ => ?_) (fun h => by cases h))
  refine Or.inr (lcall_subP [0, 1, 2, 3] (count_s b g s (l.length : Int) hs ⟨by omega, by omega⟩) rfl rfl rfl rfl rfl rfl rfl (aI (aI rfl rfl) (aI rfl (aI (aI rfl rfl) (aI (aI rfl rfl) trivial)))) (fun hA => ?_) (fun hB => ?_))
  · have hXs : X = some (l, s + (l.length : Int)) := by rw [<- hX]; unfold setX; rw [hc]; simp only; rw [if_pos hA]
    subst hXs
    exact ⟨by simp, [0, 1, 2, 3, 4], rfl, rfl, rfl, aI (aI rfl rfl) (aI rfl (aI (aI rfl rfl) (aI (aI rfl rfl) (aI rfl trivial)))), rfl⟩
  · have hXn : X = none := by rw [<- hX]; unfold setX; rw [hc]; simp only; rw [if_neg (by omega)]
    exact ⟨hXn, rfl, [0, 1, 2, 3], rfl, rfl, rfl, aI trivial (aI rfl (aI trivial (aI trivial trivial)))⟩
def wA (b : List Int) (a : Int) : Int := w2 (b.drop a.toNat) 0
theorem wA_range {b : List Int} (hB : Byt b) (a : Int) : 0 <= wA b a /\ wA b a <= 65535 := w2_range (hB.drop _) 0
def i16 (n : Int) : Int := IntKind.i16.wrap (IntKind.u16.wrap n)
def pointX (b : List Int) (a s : Int) : Option (Int × Int × Int) :=
 if outR b a 2 = true then none else if wA b a ≠ 1 then none else if 65536 < s + 1 then none
 else if outR b (a + 2) 2 = true then none else if outR b (a + 4) 2 = true then none else some (i16 (wA b (a + 2)), i16 (wA b (a + 4)), s + 1)
theorem point_s (b : List Int) (g a s : Int) (hB : Byt b) (hb : b.length <= 100000) (ha : 0 <= a /\ a <= 10000000000000) (hs : 0 <= s /\ s <= 65536) (X : Option (Int × Int × Int)) (hX : pointX b a s = X) : LCall Tryz.prog ⟨0, [], paC b g s, [], []⟩ 119 [.bx 3 0, .v (.int .i64 a)]
 (fun st' r => X ≠ none /\ st'.ch = paC b g (X.getD (0, 0, 0)).2.2 /\ r = .tup [.v (.int .i16 (X.getD (0, 0, 0)).1), .v (.int .i16 (X.getD (0, 0, 0)).2.1)]) (fun pc' st' => X = none /\ st'.ch = deC b /\ pc' = wrongP) := by
 refine lcall_execP (cf := cf) cfok (fn := Tryz.f119) Tryz.func119 rfl _ _ _ (paC b g (X.getD (0, 0, 0)).2.2) (.tup [.v (.int .i16 (X.getD (0, 0, 0)).1), .v (.int .i16 (X.getD (0, 0, 0)).2.1)]) _ (deC b) wrongP rfl rfl (by simp [svOkL, svOk]) rfl (by exact ⟨trivial, ⟨Nat.le_refl _, rfl⟩, trivial, trivial, trivial⟩) (by exact ⟨trivial, ⟨Nat.le_refl _, rfl⟩, trivial, trivial, trivial⟩) rfl rfl rfl ?_
 have pe : X = none -> X = none /\ wrongP = wrongP /\ True := fun h => ⟨h, rfl, trivial⟩
 have ea : IntKind.i64.wrap a = a := i64_id _ (by omega) (by omega)
 have ea2 : IntKind.i64.wrap (a + 2) = a + 2 := i64_id _ (by omega) (by omega)
 have ea4 : IntKind.i64.wrap (a + 4) = a + 4 := i64_id _ (by omega) (by omega)
 refine Or.inr (lcall_subP [0, 1, 2, 3] (word_s b g s a hB hb ea) rfl rfl rfl rfl rfl rfl rfl (aI (aI rfl rfl) (aI rfl (aI (aI rfl rfl) (aI (aI rfl rfl) trivial)))) (fun h1 => ?_) (fun h1 => ?_))
 rotate_left
 · exact ⟨by rw [<- hX]; unfold pointX; rw [if_pos h1], rfl, [0, 1, 2, 3], rfl, rfl, rfl, aI trivial (aI rfl (aI trivial (aI trivial trivial)))⟩
 have hn1 : ¬ outR b a 2 = true := by rw [h1]; decide
 refine Or.inr (lcall_need _ (fun h2 => ?_) (fun h2 => ?_))
 rotate_left
 · have h2 : ¬ wA b a = 1 := of_decide_eq_false h2
   exact ⟨by rw [<- hX]; unfold pointX; rw [if_neg hn1, if_pos h2], rfl, [0, 1, 2, 3], rfl, rfl, rfl, aI trivial (aI rfl (aI trivial (aI trivial trivial)))⟩
 have h2 : wA b a = 1 := of_decide_eq_true h2
 refine Or.inr (lcall_subP [0, 1, 2, 3] (count_s b g s 1 hs ⟨by omega, by omega⟩) rfl rfl rfl rfl rfl rfl rfl (aI (aI rfl rfl) (aI rfl (aI (aI rfl rfl) (aI (aI rfl rfl) trivial)))) (fun h3 => ?_) (fun h3 => ?_))
 rotate_left
 · exact ⟨by rw [<- hX]; unfold pointX; rw [if_neg hn1, if_neg (fun h => h h2), if_pos h3], rfl, [0, 1, 2, 3], rfl, rfl, rfl, aI trivial (aI rfl (aI trivial (aI trivial trivial)))⟩
 refine Or.inr (lcall_subP [0, 1, 2, 3] (word_s b g (s + 1) (a + 2) hB hb ea2) (congrArg (fun z : Int => [SV.bx 3 0, .v (.int .i64 z)]) ea2) rfl rfl rfl rfl rfl rfl (aI (aI rfl rfl) (aI rfl (aI (aI rfl rfl) (aI (aI rfl rfl) trivial)))) (fun h4 => ?_) (fun h4 => ?_))
 rotate_left
 · exact ⟨by rw [<- hX]; unfold pointX; rw [if_neg hn1, if_neg (fun h => h h2), if_neg (by omega), if_pos h4], rfl, [0, 1, 2, 3], rfl, rfl, rfl, aI trivial (aI rfl (aI trivial (aI trivial trivial)))⟩
 have hn4 : ¬ outR b (a + 2) 2 = true := by rw [h4]; decide
 refine Or.inr (lcall_subP [0, 1, 2, 3] (word_s b g (s + 1) (a + 4) hB hb ea4) (congrArg (fun z : Int => [SV.bx 3 0, .v (.int .i64 z)]) ea4) rfl rfl rfl rfl rfl rfl (aI (aI rfl rfl) (aI rfl (aI (aI rfl rfl) (aI (aI rfl rfl) trivial)))) (fun h5 => ?_) (fun h5 => ?_))
 rotate_left
 · exact ⟨by rw [<- hX]; unfold pointX; rw [if_neg hn1, if_neg (fun h => h h2), if_neg (by omega), if_neg hn4, if_pos h5], rfl, [0, 1, 2, 3], rfl, rfl, rfl, aI trivial (aI rfl (aI trivial (aI trivial trivial)))⟩
 have hXs : X = some (i16 (wA b (a + 2)), i16 (wA b (a + 4)), s + 1) := by rw [<- hX]; unfold pointX; rw [if_neg hn1, if_neg (fun h => h h2), if_neg (by omega), if_neg hn4, if_neg (by rw [h5]; decide)]
 subst hXs
 exact ⟨by simp, [0, 1, 2, 3], rfl, rfl, rfl, aI (aI rfl rfl) (aI rfl (aI (aI rfl rfl) (aI (aI rfl rfl) trivial))), rfl⟩
def kindV (t : Int) : Value := if t = 2 then .iface 115 (.agg #[]) else if t = 4 then .iface 117 (.agg #[.bool false]) else if t = 6 then .iface 117 (.agg #[.bool true]) else .nilIface
theorem kind_c (t : Int) (w : World) : Calls Tryz.prog 39 #[.int .u16 t] w fun e w' => e = .returned (kindV t) /\ Below w.heap.size w w' := by
 refine calls_exec (cf := cf) cfok (fn := Tryz.f39) Tryz.func39 rfl [.v (.int .u16 t)] [] (ρ := fun _ => undef) (· < w.heap.size) rfl rfl rfl (by simp [svOkL, svOk]) (memNil fun _ h => h) ?_
 unfold kindV
 refine aI (fun h => ?_) (fun h => ?_)
 · have h : t = 2 := of_decide_eq_true h
   rw [if_pos h]
   exact fun ρ S w' hi => ⟨rfl, hi.below⟩
 have h : ¬ t = 2 := of_decide_eq_false h
 rw [if_neg h]
 refine aI (fun h => ?_) (fun h => ?_)
 · have h : t = 4 := of_decide_eq_true h
   rw [if_pos h]
   exact fun ρ S w' hi => ⟨rfl, hi.below⟩
 have h : ¬ t = 4 := of_decide_eq_false h
 rw [if_neg h]
 refine aI (fun h => ?_) (fun h => ?_)
 · have h : t = 6 := of_decide_eq_true h
   rw [if_pos h]
   exact fun ρ S w' hi => ⟨rfl, hi.below⟩
 have h : ¬ t = 6 := of_decide_eq_false h
 rw [if_neg h]
 exact fun ρ S w' hi => ⟨rfl, hi.below⟩
end Go.Proofs.YtjflgkadagkllaaGreat
