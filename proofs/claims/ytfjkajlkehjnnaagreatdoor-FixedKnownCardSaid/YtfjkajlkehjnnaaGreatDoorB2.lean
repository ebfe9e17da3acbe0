/- (strings.Builder).String: what was written, as a string. -/
import Derived.Test.YtfjkajlkehjnnaaGreatDoorB1
import Derived.WalkKit
import Derived.ProofKit
set_option maxRecDepth 100000
set_option linter.unusedVariables false
namespace Go.Proofs.YtfjkajlkehjnnaaGreatDoor
open Go Go.Eng Go.RowKit

set_option maxHeartbeats 2000000 in
theorem string_walk (b g : Nat) (p : Value) (cap : Nat) (cur : Array Value) (l : List UInt8) (w : World) (hbk : w.heap[b]? = some (.cells #[p, .slice (some ⟨g, 0, none⟩) l.length cap] 43 (0, 0))) (h0 : l ≠ [])
    (hg : w.heap[g]? = some (.cells cur 5 (0, 0))) (hlc : l.length ≤ cur.size) (hmax : l.length ≤ maxLen) (hnc : l.length ≤ cap)
    (hcell : ∀ (j : Nat) x, l[j]? = some x → w.cell? ((⟨g, 0, none⟩ : Addr).add j) = some (.int .u8 x.toNat)) :
    Calls Tryz.prog 22 #[.pointer (some ⟨b, 0, none⟩)] w fun e w' => e = .returned (.string ⟨l.toArray⟩) ∧ w' = w.drew.freeze ⟨g, 0, none⟩ l.length := by
  have c1 : w.drew.cell? ⟨b, 1, none⟩ = some (.slice (some ⟨g, 0, none⟩) l.length cap) := by
    have : w.drew.heap[b]? = some (.cells #[p, .slice (some ⟨g, 0, none⟩) l.length cap] 43 (0, 0)) := hbk
    rw [Lib.cell_of_heap this]; rfl
  have hl0 : l.length ≠ 0 := by simpa using h0
  have hSD : (Builtin.unsafeSliceData_ #[41] 76 #[.slice (some ⟨g, 0, none⟩) l.length cap]).run Tryz.prog w.drew = .ok (.pointer (some ⟨g, 0, none⟩)) w.drew :=
    Lib.run_unsafeSliceData_row _ _ _ _ _ _ (by omega)
  have hUS : (Builtin.unsafeString_ #[76, 3] 9 #[.pointer (some ⟨g, 0, none⟩), .int .i64 l.length]).run Tryz.prog w.drew = .ok (.string ⟨l.toArray⟩) (w.drew.freeze ⟨g, 0, none⟩ l.length) := by
    refine Lib.run_unsafeString_row w.drew 76 3 9 5 Tryz.underlying76 (by kernel_rfl) g cur.size (by have hg' : w.drew.heap[g]? = some (.cells cur 5 (0, 0)) := hg; simp [World.shape?, hg']) l h0 hlc (by unfold maxLen at hmax; omega) ?_
    intro j x hx
    exact hcell j x hx
  go_enter Tryz.func22, Tryz.ntmps22
  go_wp2
  go_region
  all_goals (go_wp2; go_ret; exact ⟨rfl, rfl⟩)

theorem bE_nth {xs : List UInt8} {i : Nat} (hi : i < xs.length) : (bE (nth xs i))[0]? = some (.v (.int .u8 (xs[i]).toNat)) := by
  rw [nth_eq xs i hi]; rfl

theorem string_c (xs : List UInt8) (h0 : xs ≠ []) (p : SV) : LCall Tryz.prog ⟨0, [], [bld p, bys xs], [], []⟩ 22 [.bx 0 0] (fun st' r => st'.ch = [.dead, .dead] ∧ r = .v (.string ⟨xs.toArray⟩)) := by
  intro ρ S w hm
  obtain ⟨b, h1, hbk, _⟩ := bld_at hm (id := 0) rfl
  have hown : OwnOk S w 5 UInt8 inferInstance 1 bE xs (ρ 1) := hm.ok 1 (by simp)
  obtain ⟨vals, ho, hrep⟩ := hown
  have hob : ∀ k, (ρ 1).ownBlock = some k → ownBlk (chGet [bld p, bys xs] 1) (ρ 1) = some k := fun k h => h
  have ho' := ho
  obtain ⟨hvl, hor⟩ := ho'
  rcases hor with ⟨_, h⟩ | ⟨g, cap, cur, hv, _, hg, hnc, hcm, hcs, htake⟩
  · exact absurd (List.eq_nil_of_length_eq_zero h) h0
  simp only [den, hv] at hbk
  have hcell : ∀ (j : Nat) x, xs[j]? = some x → w.cell? ((⟨g, 0, none⟩ : Addr).add j) = some (.int .u8 x.toNat) := by
    intro j x hx
    have hj := (List.getElem?_eq_some_iff.1 hx).1
    obtain ⟨y, hy, _, hr⟩ := hrep j 0 _ hj (bE_nth hj)
    cases hr
    have := ho.cells (g := g) (by rw [hv]; rfl) (j * 1 + 0) _ hy
    rw [Nat.mul_one, Nat.add_zero] at this
    rw [this]
    have : xs[j] = x := by rw [List.getElem?_eq_getElem hj] at hx; simpa using hx
    rw [this]
  have hw := string_walk b g (den ρ p) cap cur xs w hbk h0 hg (by omega) (by omega) hnc hcell
  simp only [denL, h1]
  refine hw.mono fun e w' h => ?_
  obtain ⟨rfl, rfl⟩ := h
  refine .inl ⟨⟨0, [], [.dead, .dead], [], []⟩, .v (.string ⟨xs.toArray⟩), ρ, S, rfl, ?_, by simp [svOk], rfl, rfl⟩
  have hsz : (w.drew.freeze ⟨g, 0, none⟩ xs.length).heap.size = w.heap.size := by
    unfold World.freeze; split <;> simp
  have hoth : ∀ k, k ≠ g → (w.drew.freeze ⟨g, 0, none⟩ xs.length).heap[k]? = w.heap[k]? := by
    intro k hk
    unfold World.freeze
    split
    · rfl
    · simp only [Array.getElem?_modify]
      rw [if_neg (fun e => hk e.symm)]
      rfl
  have hdead : ∀ i, chGet [Chunk.dead, Chunk.dead] i = .dead := fun i => match i with | 0 => rfl | 1 => rfl | n + 2 => chGet_out _ _ (by simp)
  refine ⟨rfl, rfl, rfl, ⟨Nat.le_refl _, fun id hid n' hn => ?_⟩, fun _ _ => rfl, ?_, fun _ h => h, fun k hk hno => ?_, fun i k hi e => ?_, fun _ h => .inl h, fun id l go n e => ?_, by rw [hsz]; exact Nat.le_refl _, ?_, ?_, ?_⟩
  · rw [show chGet (St.ch ⟨0, [], [.dead, .dead], [], []⟩) id = .dead from hdead id] at hn; cases hn
  · refine ⟨fun id hid => ?_, fun id => ?_, fun i j k hi hj hij e => ?_, fun i k hi e => ?_, fun k hk => by rw [hsz]; exact hm.lt k hk, fun id => ?_⟩
    · simp only [hdead]; trivial
    · simp only [hdead]; trivial
    · simp only [hdead] at e; simp [ownBlk] at e
    · simp only [hdead] at e; simp [ownBlk] at e
    · simp only [hdead]; intro q hq; simp [condsOf] at hq
  · refine hoth k (fun e => ?_)
    subst e
    exact hno 1 (by simp) (hob k (by rw [hv]; rfl))
  · rw [show chGet (St.ch ⟨0, [], [.dead, .dead], [], []⟩) i = .dead from hdead i] at e; cases e
  · rw [show chGet (St.ch ⟨0, [], [.dead, .dead], [], []⟩) id = .dead from hdead id] at e; cases e
  all_goals (unfold World.freeze; split <;> rfl)
end Go.Proofs.YtfjkajlkehjnnaaGreatDoor
