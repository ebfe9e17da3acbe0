/- gsub.parser.count, set, point; the kinds of subtables. -/
import Derived.Test.YtalploampmdemaaN2
set_option maxRecDepth 100000
set_option linter.unusedVariables false
namespace Go.Proofs.Ytalploampmdemaa
open Go Go.Eng Go.RowKit

theorem count_s (b : List Int) (g L s n : Int) (hs : 0 ≤ s ∧ s ≤ 65536) (hn : 0 ≤ n ∧ n ≤ 100000) : LCall Try.prog ⟨0, [], paC b g L s, [], []⟩ 64 [.bx 3 0, .v (.int .i64 n)]
    (fun st' r => s + n ≤ 65536 ∧ st'.ch = paC b g L (s + n) ∧ r = .tup []) (fun pc' st' => 65536 < s + n ∧ st'.ch = deC b ∧ pc' = wrongP) := by
  refine lcall_execP (cf := cf) cfok (fn := Try.f64) Try.func64 rfl _ _ _ (paC b g L (s + n)) (.tup []) _ (deC b) wrongP rfl rfl (by simp [svOkL, svOk]) rfl (by exact ⟨trivial, ⟨Nat.le_refl _, rfl⟩, trivial, trivial, trivial⟩) (by exact ⟨trivial, ⟨Nat.le_refl _, rfl⟩, trivial, trivial, trivial⟩) rfl rfl rfl ?_
  have e : IntKind.i64.wrap (s + n) = s + n := i64_id _ (by omega) (by omega)
  refine Or.inr (lcall_need _ (fun h => ?_) (fun h => ?_))
  · have h : IntKind.i64.wrap (s + n) ≤ 65536 := of_decide_eq_true h
    rw [e] at h
    exact ⟨h, [0, 1, 2, 3], rfl, rfl, rfl, And.intro (And.intro rfl rfl) (And.intro rfl (And.intro (And.intro rfl rfl) (And.intro (And.intro rfl (congrArg (fun z : Int => [SV.bx 2 0, .v (.int .i64 g), .v (.int .i64 L), .v (.int .i64 z)]) e)) trivial))), rfl⟩
  · have h : ¬ IntKind.i64.wrap (s + n) ≤ 65536 := of_decide_eq_false h
    rw [e] at h
    exact ⟨by omega, rfl, [0, 1, 2, 3], rfl, rfl, rfl, And.intro trivial (And.intro rfl (And.intro trivial (And.intro trivial trivial)))⟩
def setX (b : List Int) (g a s : Int) : Option (List Int × Int) :=
  match covX b a g with
  | none => none
  | some l => if s + (l.length : Int) ≤ 65536 then some (l, s + (l.length : Int)) else none
theorem finC_len {l r : List Int} (h : finC l = some r) : r = l ∧ 0 < r.length ∧ r.length ≤ 65535 := by
  unfold finC at h
  split at h
  · rename_i hh; cases h; exact ⟨rfl, hh.1, hh.2⟩
  · cases h
theorem covX_len {b : List Int} {a g : Int} {l : List Int} (h : covX b a g = some l) : 0 < l.length ∧ l.length ≤ 65535 := by
  unfold covX at h
  split at h
  · cases h
  · split at h
    · split at h
      · cases h
      · unfold cov1 at h
        split at h
        · exact (finC_len h).2
        · cases h
    · split at h
      · split at h
        · cases h
        · unfold cov2 at h
          split at h
          · exact (finC_len h).2
          · cases h
      · cases h
theorem setX_len {b : List Int} {g a s : Int} {r : List Int × Int} (h : setX b g a s = some r) : covX b a g = some r.1 ∧ r.2 = s + (r.1.length : Int) ∧ r.2 ≤ 65536 ∧ 0 < r.1.length ∧ r.1.length ≤ 65535 := by
  unfold setX at h
  split at h
  · cases h
  · rename_i l hl
    split at h
    · rename_i hh
      cases h
      exact ⟨hl, rfl, hh, covX_len hl⟩
    · cases h
abbrev owW (l : List Int) : Chunk := .own 31 Int inferInstance 1 hE l
def wA (b : List Int) (a : Int) : Int := w2 (b.drop a.toNat) 0
theorem wA_range {b : List Int} (hB : Byt b) (a : Int) : 0 ≤ wA b a ∧ wA b a ≤ 65535 := w2_range (hB.drop _) 0
end Go.Proofs.Ytalploampmdemaa
