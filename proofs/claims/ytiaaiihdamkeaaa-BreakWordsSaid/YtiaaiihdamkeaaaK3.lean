/- parbreak.Break: looking into its memo, and putting into it. -/
import Derived.Test.YtiaaiihdamkeaaaK2
set_option maxRecDepth 100000
set_option linter.unusedVariables false
namespace Go.Proofs.Ytiaaiihdamkeaaa
open Go Go.Eng Go.RowKit Go.Ar

theorem findKey_eq (x : Value) (es : List MapEntry) (w : World) : (Instr.findKey 50 x es).run Try.prog w = (Instr.findAsking 50 x es).run Try.prog w :=
  run_findKey_eq w (by rw [Try.underlying50]) x es
theorem look_run (p : Par) (f k r : Nat) (w : World) {ob : Obj} (hg : w.heap[r]? = some ob) (hob : memoOk p ob) :
    ∃ v, (Instr.lookup 44 (.map (some r)) (keyV f k) true).run Try.prog w = .ok v w ∧ (v = .tuple #[valV (0, 0), .bool false] ∨ v = .tuple #[valV (best p f k), .bool true]) := by
  obtain ⟨es, clock, rfl, hes⟩ := hob
  have hgo : (getObj r).run Try.prog w = .ok (.map es clock) w := by simp [getObj, Sem.run, hg]
  have hz : (zeroValue 47).run Try.prog w = .ok (valV (0, 0)) w := Try.zeroValue47 w
  rcases find_c p f k w es.toList 0 hes with h | ⟨q, e, h, _, _⟩
  · refine ⟨.tuple #[valV (0, 0), .bool false], ?_, .inl rfl⟩
    simp [Instr.lookup, run_underlying Try.underlying44, Result.andThen, hgo, chk_c, findKey_eq, h, hz]
  · refine ⟨.tuple #[valV (best p f k), .bool true], ?_, .inr rfl⟩
    simp [Instr.lookup, run_underlying Try.underlying44, Result.andThen, hgo, chk_c, findKey_eq, h]
theorem stays_c (a b : Int) (w : World) : (Instr.keyThatStays (keyV a b) (keyV a b)).run Try.prog w = .ok (keyV a b) w := by
  have : Instr.sameBits 10000 (keyV a b) (keyV a b) = true := by
    rw [show (10000 : Nat) = 9999 + 1 from rfl]
    simp [Instr.sameBits]
  unfold Instr.keyThatStays
  rw [if_pos this]
  rfl
theorem put_run (p : Par) (f k r : Nat) (w : World) {ob : Obj} (hg : w.heap[r]? = some ob) (hob : memoOk p ob) :
    ∃ ob', (Instr.mapUpdate 44 (.map (some r)) (keyV f k) (valV (best p f k))).run Try.prog w = .ok () { w with heap := w.heap.setIfInBounds r ob' } ∧ memoOk p ob' := by
  obtain ⟨es, clock, rfl, hes⟩ := hob
  have hgo : (getObj r).run Try.prog w = .ok (.map es clock) w := by simp [getObj, Sem.run, hg]
  have hso : ∀ o, (setObj r o).run Try.prog w = .ok () { w with heap := w.heap.setIfInBounds r o } := fun o => Go.MapKept.run_setObj_map o hg
  rcases find_c p f k w es.toList 0 hes with h | ⟨q, e, h, h2, h3⟩
  · refine ⟨.map (es.push { key := keyV f k, val := valV (best p f k), born := clock }) (clock + 1), ?_, _, _, rfl, fun e he => ?_⟩
    · simp [Instr.mapUpdate, run_underlying Try.underlying44, Result.andThen, hgo, chk_c, findKey_eq, h, hso]
    · rw [Array.toList_push, List.mem_append, List.mem_singleton] at he
      rcases he with he | rfl
      · exact hes e he
      · exact ⟨f, k, rfl, rfl⟩
  · have hq : es[q]? = some e := by simpa using h2
    rw [Nat.zero_add] at h
    refine ⟨.map (es.modify q fun e => { e with key := keyV f k, val := valV (best p f k) }) clock, ?_, _, _, rfl, fun x hx => ?_⟩
    · simp [Instr.mapUpdate, run_underlying Try.underlying44, Result.andThen, hgo, chk_c, findKey_eq, h, hso, hq, h3, stays_c]
    · obtain ⟨i, hi, rfl⟩ := List.getElem_of_mem hx
      rw [Array.getElem_toList, Array.getElem_modify]
      split
      · exact ⟨f, k, rfl, rfl⟩
      · exact hes _ (by rw [← Array.getElem_toList]; exact List.getElem_mem _)
end Go.Proofs.Ytiaaiihdamkeaaa
