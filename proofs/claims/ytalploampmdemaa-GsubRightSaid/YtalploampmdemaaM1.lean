/- gsub.parser.set, glyph. -/
import Derived.Test.YtalploampmdemaaN3
set_option maxRecDepth 100000
set_option linter.unusedVariables false
namespace Go.Proofs.Ytalploampmdemaa
open Go Go.Eng Go.RowKit

def set2 (b : List Int) (g a wd s : Int) : Option (List Int × Int) := if outR b wd 2 = true then none else setX b g (a + wA b wd) s
theorem cov_q (b : List Int) (a q g : Int) (hq : q = a) (hb : b.length ≤ 1000000) (ha : IntKind.i64.wrap a = a) (v : Value) (w : World) (hv : Rdr w v b) :
    Calls Try.prog 80 #[v, .int .i64 q, .int .i64 g] w (CovR b a g w) := by
  subst hq
  exact cov_c b _ g hb ha v w hv
theorem set_s (b : List Int) (g L a wd s : Int) (hB : Byt b) (hb : b.length ≤ 100000) (ha : 0 ≤ a ∧ a ≤ 100000000) (hw : 0 ≤ wd ∧ wd ≤ 100000000) (hs : 0 ≤ s ∧ s ≤ 65536) (X : Option (List Int × Int)) (hX : set2 b g a wd s = X) : LCall Try.prog ⟨0, [], paC b g L s, [], []⟩ 59 [.bx 3 0, .v (.int .i64 a), .v (.int .i64 wd)]
    (fun st' r => X ≠ none ∧ st'.ch = paC b g L (X.getD ([], 0)).2 ++ [owW (X.getD ([], 0)).1] ∧ r = .sl 4) (fun pc' st' => X = none ∧ st'.ch = deC b ∧ pc' = wrongP) := by
  refine lcall_execP (cf := cf) cfok (fn := Try.f59) Try.func59 rfl _ _ _ (paC b g L (X.getD ([], 0)).2 ++ [owW (X.getD ([], 0)).1]) (.sl 4) _ (deC b) wrongP rfl rfl (by simp [svOkL, svOk]) rfl (by exact ⟨trivial, ⟨Nat.le_refl _, rfl⟩, trivial, trivial, trivial⟩) (by exact ⟨trivial, ⟨Nat.le_refl _, rfl⟩, trivial, trivial, trivial⟩) rfl rfl rfl ?_
  have hwr := wA_range hB wd
  have ew : IntKind.i64.wrap wd = wd := i64_id _ (by omega) (by omega)
  have ea : IntKind.i64.wrap (a + w2 (b.drop wd.toNat) 0) = a + wA b wd := i64_id _ (by unfold wA at hwr; omega) (by unfold wA at hwr; omega)
  refine Or.inr (Or.inr (Or.inr ⟨[0, 1, 2, 3, 4, 5, 6, 9, 10, 11, 12], [7, 8, 13, 1014, 1015, 1017, 1016, 1018], [], [], by kernel_rfl, ?_⟩))
  refine ⟨_, ⟨rfl, rfl⟩, fun xs => ⟨rfl, rfl⟩, ?_⟩
  refine ⟨_, ⟨rfl, rfl⟩, fun xs => ⟨rfl, rfl⟩, ?_⟩
  refine ⟨_, ⟨rfl, rfl⟩, fun xs => ⟨rfl, rfl⟩, ?_⟩
  refine ⟨_, ⟨rfl, rfl⟩, fun xs => ⟨rfl, rfl⟩, ?_⟩
  refine ⟨_, ⟨rfl, rfl⟩, fun xs => ⟨rfl, rfl⟩, ?_⟩
  refine ⟨_, ⟨rfl, rfl⟩, fun xs => ⟨rfl, rfl⟩, ?_⟩
  refine ⟨_, ⟨rfl, rfl⟩, fun xs => ⟨rfl, rfl⟩, ?_⟩
  refine ⟨_, ⟨rfl, rfl⟩, fun xs => ⟨rfl, rfl⟩, ?_⟩
  refine ⟨_, ⟨rfl, rfl⟩, fun xs => ⟨rfl, rfl⟩, ?_⟩
  refine ⟨_, ⟨rfl, rfl⟩, fun xs => ⟨rfl, rfl⟩, ?_⟩
  refine ⟨_, ⟨rfl, rfl⟩, fun xs => ⟨rfl, rfl⟩, ?_⟩
  refine Or.inr (lcall_subP [0, 1, 2, 3] (word_s b g L s wd hB hb ew) rfl rfl rfl rfl rfl rfl rfl (And.intro (And.intro rfl rfl) (And.intro rfl (And.intro (And.intro rfl rfl) (And.intro (And.intro rfl rfl) trivial)))) (fun h1 => ?_) (fun h1 => ?_))
  rotate_left
  · have hXn : X = none := by rw [← hX]; unfold set2; rw [if_pos h1]
    exact ⟨hXn, rfl, [0, 1, 2, 3], rfl, rfl, rfl, And.intro trivial (And.intro rfl (And.intro trivial (And.intro trivial trivial)))⟩
  have hX : setX b g (a + wA b wd) s = X := by rw [← hX]; unfold set2; rw [if_neg (by rw [h1]; decide)]
  refine ⟨rfl, fun xs => rfl, ?_⟩
  refine ⟨rfl, fun xs => rfl, ?_⟩
  cases hc : covX b (a + wA b wd) g with
  | none =>
    have hXn : X = none := by rw [← hX]; unfold setX; rw [hc]
    refine Or.inl ⟨.tuple #[.slice none 0 0, .int .i64 50], fun ρ S w hm => (cov_q b _ _ g ea (by omega) (i64_id _ (by omega) (by omega)) _ w (hm.rep 40 (.bx 2 0) (.ptr (rdD b)) rfl rfl)).mono fun e w' hh => ?_, ?_⟩
    · rcases hh with ⟨_, h1, h2⟩ | ⟨l, u, h1, _⟩
      · exact ⟨h1, h2⟩
      · rw [hc] at h1; cases h1
    refine ⟨rfl, fun xs => rfl, ?_⟩
    refine Or.inr (lcall_need false (fun h => by cases h) (fun _ => ?_))
    exact ⟨hXn, rfl, [0, 1, 2, 3], rfl, rfl, rfl, And.intro trivial (And.intro rfl (And.intro trivial (And.intro trivial trivial)))⟩
  | some l =>
    have hl := covX_len hc
    refine Or.inr (lcall_fresh2 (t := 31) (sz := 1) (enc := hE) l (.int .i64 0) (fun ρ S w hm => (cov_q b _ _ g ea (by omega) (i64_id _ (by omega) (by omega)) _ w (hm.rep 40 (.bx 2 0) (.ptr (rdD b)) rfl rfl)).mono fun e w' hh => ?_) ?_)
    · rcases hh with ⟨h0, _, _⟩ | ⟨l', u, h1, h2, h3, h4⟩
      · rw [hc] at h0; cases h0
      · rw [hc] at h1; cases h1; exact ⟨u, h2, h3, h4⟩
    refine ⟨rfl, fun xs => rfl, ?_⟩
    refine Or.inr (lcall_need true (fun _ => ?_) (fun h => by cases h))
    refine Or.inr (lcall_subP [0, 1, 2, 3] (count_s b g L s (l.length : Int) hs ⟨by omega, by omega⟩) rfl rfl rfl rfl rfl rfl rfl (And.intro (And.intro rfl rfl) (And.intro rfl (And.intro (And.intro rfl rfl) (And.intro (And.intro rfl rfl) trivial)))) (fun hA => ?_) (fun hB => ?_))
    · have hXs : X = some (l, s + (l.length : Int)) := by rw [← hX]; unfold setX; rw [hc]; simp only; rw [if_pos hA]
      subst hXs
      exact ⟨by simp, [0, 1, 2, 3, 4], rfl, rfl, rfl, And.intro (And.intro rfl rfl) (And.intro rfl (And.intro (And.intro rfl rfl) (And.intro (And.intro rfl rfl) (And.intro rfl trivial)))), rfl⟩
    · have hXn : X = none := by rw [← hX]; unfold setX; rw [hc]; simp only; rw [if_neg (by omega)]
      exact ⟨hXn, rfl, [0, 1, 2, 3], rfl, rfl, rfl, And.intro trivial (And.intro rfl (And.intro trivial (And.intro trivial trivial)))⟩
end Go.Proofs.Ytalploampmdemaa
