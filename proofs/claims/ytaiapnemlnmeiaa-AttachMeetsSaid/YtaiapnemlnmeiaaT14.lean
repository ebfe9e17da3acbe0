/- the chapter's font, and what Apply and Origins make of two rows. -/
import Derived.Test.YtaiapnemlnmeiaaT13
namespace Go.Proofs.Ytaiapnemlnmeiaa
open Go Go.Eng Go.RowKit

def kernL : List Pos := [⟨[⟨0, 1, -40⟩, ⟨0, 1, 7⟩], [], []⟩, ⟨[⟨1, 2, 5⟩, ⟨0, 1, 9⟩], [], []⟩]
def exS : Pos := ⟨[], [⟨2, 0, 10, 20⟩, ⟨3, 1, 1, 2⟩], [⟨1, [⟨true, 300, 700⟩]⟩, ⟨0, [⟨false, 0, 0⟩, ⟨true, -32768, 32767⟩]⟩]⟩
def exT : Pos := ⟨[], [⟨2, 0, 0, 50⟩, ⟨3, 0, 0, 0⟩], [⟨2, [⟨true, 30, 900⟩]⟩, ⟨3, [⟨true, 3, 90⟩]⟩]⟩
def exP : List Lookup := [⟨2, 0, [], kernL⟩, ⟨4, 0, [], [exS]⟩, ⟨6, 0, [], [exT]⟩, ⟨4, 2, [], [exS]⟩, ⟨2, 8, [], kernL⟩, ⟨9, 0, [], [exS]⟩]
def exQ : List Feature := [⟨107, 101, 114, 110, [0]⟩, ⟨109, 97, 114, 107, [1, 3, 5]⟩, ⟨109, 107, 109, 107, [2]⟩, ⟨108, 105, 103, 97, [4, 9, -1]⟩]
def exF : Font := ⟨0, 0, 0, [500, 600, 0, 0, 65535], [1, 1, 3, 3, 2], [], [], [], exP, exQ⟩

set_option maxRecDepth 100000 in
theorem example_c (w : World) (S : Nat → Prop) (hS : ∀ b, S b → b < w.heap.size) : Calls Try.prog 13 #[] w fun e w' => ∃ us, e = .returned (.agg us.toArray) ∧ Below w.heap.size w w' ∧ repYs (fun b => S b ∨ (w.heap.size ≤ b ∧ b < w'.heap.size)) w' (foD exF) us := by
  refine calls_exec2 (cf := cf) cfok rfl rfl (fn := Try.f13) Try.func13 rfl [] [] (ρ := fun _ => undef) (· < w.heap.size) S rfl rfl rfl (by simp [svOkL, svOk]) rfl (memNil hS) (fun b hb => ⟨hb, fun i hi => absurd hi (Nat.not_lt_zero _)⟩) ?_
  refine fun ρ S' w' hi => ⟨_, rfl, hi.below, rfl, rfl, rfl, hi.to 60 (.sl 15) (.sl Int inferInstance 1 hE exF.adv) rfl ?_, hi.to 60 (.sl 16) (.sl Int inferInstance 1 bE exF.cls) rfl ?_, DRep.nil, DRep.nil, DRep.nil, hi.to 60 (.sl 21) (.sl Lookup inferInstance 4 lkE exF.poss) rfl ?_, hi.to 60 (.sl 26) (.sl Feature inferInstance 5 feE exF.pfeats) rfl ?_, trivial⟩
  all_goals repeat (first | exact rfl | exact trivial | exact fun _ _ => rfl | refine And.intro ?_ ?_)

theorem tg0 : isTag ⟨107, 101, 114, 110, [0]⟩ = true := by unfold isTag; simp only [ByteArray.toList_eq]; rfl
theorem tg1 : isTag ⟨109, 97, 114, 107, [1, 3, 5]⟩ = true := by unfold isTag; simp only [ByteArray.toList_eq]; rfl
theorem tg2 : isTag ⟨109, 107, 109, 107, [2]⟩ = true := by unfold isTag; simp only [ByteArray.toList_eq]; rfl
theorem tg3 : isTag ⟨108, 105, 103, 97, [4, 9, -1]⟩ = false := by unfold isTag; simp only [ByteArray.toList_eq]; rfl
theorem onEx (n : Int) : onF exF n = decide ((if hasL [0] n = true then (0 : Int) else if hasL [1, 3, 5] n = true then 1 else if hasL [2] n = true then 2 else -1) ≥ 0) := by
  unfold onF exF exQ
  simp only [idxF, onP, tg0, tg1, tg2, tg3, Bool.true_and, Bool.false_and]
  rfl
theorem on0 : onF exF (0 : Nat) = true := by rw [onEx]; rfl
theorem on1 : onF exF (1 : Nat) = true := by rw [onEx]; rfl
theorem on2 : onF exF (2 : Nat) = true := by rw [onEx]; rfl
theorem on3 : onF exF (3 : Nat) = true := by rw [onEx]; rfl
theorem on4 : onF exF (4 : Nat) = false := by rw [onEx]; rfl
theorem on5 : onF exF (5 : Nat) = true := by rw [onEx]; rfl
theorem lookEx (l : List Int) : applyF exF l = rowF exF l (nth exP 5) l.length (rowF exF l (nth exP 3) l.length (rowF exF l (nth exP 2) l.length (rowF exF l (nth exP 1) l.length (rowF exF l (nth exP 0) l.length (l.map (startP exF)))))) := by
  show lookF exF l 6 = _
  rw [lookF, if_pos on5, lookF, if_neg (by rw [on4]; decide), lookF, if_pos on3, lookF, if_pos on2, lookF, if_pos on1, lookF, if_pos on0, lookF]
  rfl
theorem ex1 : applyF exF [0, 1] = [⟨460, -1, 0, 0⟩, ⟨600, -1, 0, 0⟩] := by rw [lookEx]; rfl
theorem ex2 : applyF exF [1, 2] = [⟨605, -1, 0, 0⟩, ⟨0, 0, 290, 680⟩] := by rw [lookEx]; rfl
theorem ex3 : originsF [⟨605, -1, 0, 0⟩, ⟨0, 0, 290, 680⟩] false = [⟨0, 0, 1, 605, 0, 0⟩, ⟨0, 1, 2, 0, -315, 680⟩] := rfl
theorem exOk : FontOk exF where
  adv := by unfold U16L U16; decide
  pl := by decide
  fl := by decide
  fk := by decide
  ll := by decide
  ps := by
    intro x hx s hs
    have h : ∀ x ∈ exF.poss, ∀ s ∈ x.poss, s.kerns.length ≤ 100 ∧ s.marks.length ≤ 100 ∧ s.bases.length ≤ 100 ∧ ∀ m ∈ s.marks, 0 ≤ m.c ∧ m.c ≤ 65535 := by decide
    obtain ⟨h1, h2, h3, h4⟩ := h x hx s hs
    exact ⟨by omega, by omega, by omega, h4⟩
  ks := by
    intro x hx s hs
    have h : ∀ x ∈ exF.poss, ∀ s ∈ x.poss, ∀ k ∈ s.kerns, -40000 ≤ k.x ∧ k.x ≤ 40000 := by decide
    exact ⟨h x hx s hs⟩
theorem exOrg : OrgOk [⟨605, -1, 0, 0⟩, ⟨0, 0, 290, 680⟩] false where
  on := by decide
  pl := by unfold I32; decide
  pen := by unfold I32; decide
  dr := by unfold I32; decide
  df := by unfold I32; decide
end Go.Proofs.Ytaiapnemlnmeiaa
