/- The law GsubRight. -/
import Derived.Test.YtalploampmdemaaM18
set_option maxRecDepth 100000
set_option linter.unusedVariables false
namespace Go.Proofs.Ytalploampmdemaa
open Go Go.Eng Go.RowKit

theorem looks_as (ls : List Lk) (S : Nat → Prop) (w : World) (v : Value) (h : DRep S w (.sl Lk inferInstance 4 lkE ls) v) : DRep S w (.sl LkU inferInstance 4 luE (ls.map toL)) v := rep_looks h
set_option maxHeartbeats 1000000 in
theorem gright_c (b : List Int) (g : Int) (hB : Byt b) (v : Value) (w : World) (hv : Rd w v 1 bE b) : Calls Try.prog 3 #[v, .int .i64 g] w fun e w' => e = .returned (.bool true) ∧ Below w.heap.size w w' := by
  refine calls_exec (cf := cf) cfok (fn := Try.f3) Try.func3 rfl [.sl 0, .v (.int .i64 g)] [.rd Int inferInstance 1 bE b] (ρ := fun _ => v) (· < w.heap.size) rfl rfl rfl (by simp [svOkL, svOk]) (memRd (fun _ h => h) ⟨hv, trivial⟩) ?_
  refine And.intro (fun hn => ?_) (fun hn => ?_)
  · refine Or.inl ⟨.bool true, fun ρ S w hm => works_c w, ?_⟩
    exact fun ρ S w' hi => ⟨rfl, hi.below⟩
  have hn : ¬ (b.length : Int) > 3000 := of_decide_eq_false hn
  have hb : b.length ≤ 3000 := by omega
  refine Or.inr (lcall_sub [0] (open_s b (by omega)) rfl rfl rfl rfl rfl (And.intro rfl trivial) ?_)
  refine subSt_out [.rd Int inferInstance 1 bE b, .bx 82 [.v (.bool false)], .rd Int inferInstance 1 bE b, .bx 85 [.bx 1 0, .sl 2]] [0, 1, 2, 3] rfl rfl ?_
  cases hX : parseX b g with
  | none =>
    refine Or.inr (lcall_sub [1, 2, 3] (parse_s b g hB (by omega) _ hX) rfl rfl rfl rfl rfl (And.intro (And.intro rfl rfl) (And.intro rfl (And.intro (And.intro rfl rfl) trivial))) ?_)
    refine subSt_out [.rd Int inferInstance 1 bE b, .dead, .rd Int inferInstance 1 bE b, .dead] [1, 2, 3] rfl rfl ?_
    refine And.intro (fun _ => ?_) (fun h => by cases h)
    refine Or.inl ⟨.bool true, fun _ ρ S w hm => works_c w, ?_⟩
    exact fun ρ S w' hi => ⟨rfl, hi.below⟩
  | some r =>
    obtain ⟨ls, fs⟩ := r
    obtain ⟨q1, q0, q2, q3, q4, q5, q6, q7⟩ := parse_right hB (by omega) hX
    refine Or.inr (lcall_then (lcall_sub [1, 2, 3] (parse_s b g hB (by omega) _ hX) rfl rfl rfl rfl rfl (And.intro (And.intro rfl rfl) (And.intro rfl (And.intro (And.intro rfl rfl) trivial))) ?_))
    refine subSt_out [.rd Int inferInstance 1 bE b, .dead, .rd Int inferInstance 1 bE b, .dead, owLk ls, owF fs] [1, 2, 3, 4, 5] rfl rfl ?_
    refine ⟨[(4, .rd Lk inferInstance 4 lkE ls), (4, .rd LkU inferInstance 4 luE (ls.map toL))], rfl, rfl, rfl, ⟨rfl, by simp, looks_as ls⟩, fun _ => ?_⟩
    refine And.intro (fun h => by cases h) (fun _ => ?_)
    obtain ⟨us, hus⟩ : ∃ us, us = ls.map toL := ⟨_, rfl⟩
    have hul : us.length = ls.length := by rw [hus]; simp
    have hall : ∀ i, i < us.length → ∀ k, k < (nth us i).subs.length → rSub (nth us i).ty (nth (nth us i).subs k) g (us.length : Int) = true := fun i hi k hk => by
      rw [hul] at hi ⊢
      rw [hus, nth_map _ hi] at hk ⊢
      have hk : k < (nth ls i).subs.length := by simpa [toL] using hk
      show rSub (nth ls i).ty (nth ((nth ls i).subs.map toS) k) g (ls.length : Int) = true
      rw [nth_map _ hk]
      exact q0 _ (nth_mem hi) _ (nth_mem hk)
    have hlens : ∀ i, i < us.length → (nth us i).subs.length ≤ 256 := fun i hi => by
      rw [hul] at hi
      rw [hus, nth_map _ hi]
      show ((nth ls i).subs.map toS).length ≤ 256
      rw [List.length_map]
      exact q7 _ (nth_mem hi)
    rw [← hus] at q1 q2 ⊢
    refine ⟨{ i : Nat // i ≤ us.length }, fun i => ⟨81, [⟨1, [], .v (.int .i64 g)⟩, ⟨5, [], .sl 1⟩, ⟨6, [], .sl 2⟩, ⟨8, [], .v (.int .i64 (i.1 : Nat))⟩], [.rd Int inferInstance 1 bE b, .rd LkU inferInstance 4 luE us, owF fs], [], dropL nats 3⟩, fun i => us.length - i.1, ⟨[0, 4, 5], ⟨0, by omega⟩, ?_⟩, fun i => ?_⟩
    · exact And.intro (And.intro rfl (And.intro rfl (And.intro rfl (And.intro rfl trivial)))) (And.intro rfl (And.intro rfl (And.intro rfl trivial)))
    obtain ⟨i, hi⟩ := i
    refine And.intro (fun hlt => ?_) (fun hge => ?_)
    rotate_left
    · refine Or.inl ⟨.bool true, fun ρ S w hm => by
        have c := right_looks us g q2 _ w (hm.rd 1 rfl rfl)
        rw [q1] at c
        exact c, ?_⟩
      refine Or.inl ⟨.bool true, fun _ ρ S w hm => by
        have c := right_feats fs (us.length : Int) (fun f hf => Nat.le_trans (q4 f hf) (by decide)) _ w (hm.own 2 rfl rfl)
        rw [hul, q3, ← hul] at c
        exact c, ?_⟩
      refine Or.inl ⟨.bool true, fun _ ρ S w hm => works_c w, ?_⟩
      exact fun ρ S w' hi => ⟨rfl, hi.below⟩
    have hlt : i < us.length := by
      have : ((i : Nat) : Int) < ((us.length : Nat) : Int) := of_decide_eq_true hlt
      omega
    have bi : (0 : Int) ≤ (i : Int) ∧ (i : Int) < (us.length : Int) := ⟨by omega, by omega⟩
    have hls := hlens i hlt
    refine ⟨{ k : Nat // k ≤ (nth us i).subs.length }, fun k => ⟨81, [⟨1, [], .v (.int .i64 g)⟩, ⟨5, [], .sl 1⟩, ⟨6, [], .sl 2⟩, ⟨8, [], .v (.int .i64 (i : Nat))⟩, ⟨9, [], .v (.int .i64 (k.1 : Nat))⟩], [.rd Int inferInstance 1 bE b, .rd LkU inferInstance 4 luE us, owF fs], [], dropL nats 3⟩, fun k => (nth us i).subs.length - k.1, ⟨[0, 1, 2], ⟨0, by omega⟩, ?_⟩, fun k => ?_⟩
    · exact And.intro (And.intro rfl (And.intro rfl (And.intro rfl (And.intro rfl (And.intro rfl trivial))))) (And.intro rfl (And.intro rfl (And.intro rfl trivial)))
    obtain ⟨k, hk⟩ := k
    refine And.intro bi ?_
    refine And.intro (fun hkl => ?_) (fun hkg => ?_)
    rotate_left
    · exact ⟨[0, 1, 2], ⟨i + 1, hlt⟩, And.intro (And.intro rfl (And.intro rfl (And.intro rfl (And.intro (svI (i64_succ i (by omega))) trivial)))) (And.intro rfl (And.intro rfl (And.intro rfl trivial))), by show us.length - (i + 1) < us.length - i; omega⟩
    have hkl : k < (nth us i).subs.length := by
      have : ((k : Nat) : Int) < (((nth us i).subs.length : Nat) : Int) := of_decide_eq_true hkl
      omega
    have bk : (0 : Int) ≤ (k : Int) ∧ (k : Int) < ((nth us i).subs.length : Int) := ⟨by omega, by omega⟩
    have hlm := q2 (nth us i) (nth_mem hlt)
    refine Or.inl ⟨by kernel_rfl, ?_⟩
    refine And.intro bi ?_
    refine And.intro bi ?_
    refine And.intro bk ?_
    refine ⟨.bool true, fun ρ S w' hm => ?_, ?_⟩
    · have c := right_sub (nth us i).ty (nth (nth us i).subs k) g (us.length : Int) (hlm _ (nth_mem hkl)) _ _ _ _ _ _ _ w' (hm.rd 5 rfl rfl) (hm.rd 6 rfl rfl) (hm.rd 7 rfl rfl) (hm.rd 8 rfl rfl) (hm.rd 9 rfl rfl) (hm.rd 10 rfl rfl) (hm.rd 11 rfl rfl)
      rw [hall i hlt k hkl] at c
      exact c
    refine And.intro (fun h => by cases h) (fun _ => ?_)
    exact ⟨[0, 1, 2], ⟨k + 1, hkl⟩, And.intro (And.intro rfl (And.intro rfl (And.intro rfl (And.intro rfl (And.intro (svI (i64_succ k (by omega))) trivial))))) (And.intro rfl (And.intro rfl (And.intro rfl trivial))), by show (nth us i).subs.length - (k + 1) < (nth us i).subs.length - k; omega⟩
end Go.Proofs.Ytalploampmdemaa
