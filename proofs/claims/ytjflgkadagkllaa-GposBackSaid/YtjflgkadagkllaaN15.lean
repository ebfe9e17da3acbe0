/- The law GposRight. -/
import Derived.Test.YtjflgkadagkllaaN14
set_option maxRecDepth 100000
set_option linter.unusedVariables false
namespace Go.Proofs.Ytjflgkadagkllaa
open Go Go.Eng Go.RowKit

theorem byt_len {b : List Int} (hb : ¬ (b.length : Int) > 3000) : b.length ≤ 3000 := by omega
set_option maxHeartbeats 1000000 in
theorem gright_c (b : List Int) (g : Int) (hB : Byt b) (v : Value) (w : World) (hv : Rd w v 1 bE b) : Calls Try.prog 4 #[v, .int .i64 g] w fun e w' => e = .returned (.bool true) ∧ Below w.heap.size w w' := by
  refine calls_exec (cf := cf) cfok (fn := Try.f4) Try.func4 rfl [.sl 0, .v (.int .i64 g)] [.rd Int inferInstance 1 bE b] (ρ := fun _ => v) (· < w.heap.size) rfl rfl rfl (by simp [svOkL, svOk]) (memRd (fun _ h => h) ⟨hv, trivial⟩) ?_
  refine And.intro (fun hn => ?_) (fun hn => ?_)
  · refine Or.inl ⟨.bool true, fun ρ S w hm => works_c w, ?_⟩
    exact fun ρ S w' hi => ⟨rfl, hi.below⟩
  have hn : ¬ (b.length : Int) > 3000 := of_decide_eq_false hn
  have hb : b.length ≤ 3000 := by omega
  refine Or.inr (lcall_sub [0] (open_s b (by omega)) rfl rfl rfl rfl rfl (And.intro rfl trivial) ?_)
  refine subSt_out [.rd Int inferInstance 1 bE b, .bx 90 [.v (.bool false)], .rd Int inferInstance 1 bE b, .bx 93 [.bx 1 0, .sl 2]] [0, 1, 2, 3] rfl rfl ?_
  cases hX : parseX b g with
  | none =>
    refine Or.inr (lcall_sub [1, 2, 3] (parse_s b g hB (by omega) _ hX) rfl rfl rfl rfl rfl (And.intro (And.intro rfl rfl) (And.intro rfl (And.intro (And.intro rfl rfl) trivial))) ?_)
    refine subSt_out [.rd Int inferInstance 1 bE b, .dead, .rd Int inferInstance 1 bE b, .dead] [1, 2, 3] rfl rfl ?_
    refine And.intro (fun _ => ?_) (fun h => by cases h)
    refine Or.inl ⟨.bool true, fun _ ρ S w hm => works_c w, ?_⟩
    exact fun ρ S w' hi => ⟨rfl, hi.below⟩
  | some r =>
    obtain ⟨ls, fs⟩ := r
    obtain ⟨q1, q2, q3, q4, q5, q6⟩ := parse_right hB hX
    refine Or.inr (lcall_sub [1, 2, 3] (parse_s b g hB (by omega) _ hX) rfl rfl rfl rfl rfl (And.intro (And.intro rfl rfl) (And.intro rfl (And.intro (And.intro rfl rfl) trivial))) ?_)
    refine subSt_out [.rd Int inferInstance 1 bE b, .dead, .rd Int inferInstance 1 bE b, .dead, owLk ls, owF fs] [1, 2, 3, 4, 5] rfl rfl ?_
    refine And.intro (fun h => by cases h) (fun _ => ?_)
    refine Or.inl ⟨.bool true, fun ρ S w hm => by
      rw [← q1]
      exact right_looks (ls.map toL) g q2 _ w (rep_looks (hm.own 4 rfl rfl)), ?_⟩
    refine Or.inl ⟨.bool true, fun _ ρ S w hm => by
      rw [← q3]
      exact right_feats fs (ls.length : Int) (fun f hf => Nat.le_trans (q4 f hf) (by decide)) _ w (hm.own 5 rfl rfl), ?_⟩
    refine Or.inl ⟨.bool true, fun _ ρ S w hm => works_c w, ?_⟩
    exact fun ρ S w' hi => ⟨rfl, hi.below⟩
end Go.Proofs.Ytjflgkadagkllaa
