/- attach.row, Origins. -/
import Derived.Test.YtaiapnemlnmeiaaT10
namespace Go.Proofs.Ytaiapnemlnmeiaa
open Go Go.Eng Go.RowKit

theorem row_c (n : Int) (back : Bool) (w : World) (S : Nat → Prop) (hS : ∀ b, S b → b < w.heap.size) :
    Calls Try.prog 19 #[.int .i64 n, .bool back] w fun e w' => ∃ vs, e = .returned (.func (.func 30) #[] vs.toArray) ∧ Below w.heap.size w w' ∧ repPs (fun b => S b ∨ (w.heap.size ≤ b ∧ b < w'.heap.size)) w' [[.v (.int .i64 n)], [.v (.bool back)]] vs := by
  refine calls_exec2 (cf := cf) cfok rfl rfl (fn := Try.f19) Try.func19 rfl [.v (.int .i64 n), .v (.bool back)] [] (ρ := fun _ => undef) (· < w.heap.size) S rfl rfl rfl (by simp [svOkL, svOk]) rfl (memNil hS) (fun b hb => ⟨hb, fun i hi => absurd hi (Nat.not_lt_zero _)⟩) ?_
  exact fun ρ S' w' hi => ⟨[_, _], rfl, hi.below, hi.ptr 0 rfl rfl _ rfl, hi.ptr 1 rfl rfl _ rfl, trivial⟩

def rowJ (n : Nat) (back : Bool) (j : Nat) : Nat := if back = true then n - 1 - j else j
def rowV (n : Nat) (back : Bool) (j : Nat) : List Value := [.int .i64 (rowJ n back j)]
theorem row_it (n : Nat) (back : Bool) (hn : n ≤ 16384) (p q : Value) (w : World) (S : Nat → Prop) (hS : ∀ b, S b → b < w.heap.size)
    (hp : DRep S w (.ptr [.v (.int .i64 n)]) p) (hq : DRep S w (.ptr [.v (.bool back)]) q) : IterX Try.prog 30 #[p, q] n (fun j => (rowV n back j).toArray) S w := by
  obtain ⟨b1, o1, rfl⟩ : ∃ k o, p = .pointer (some ⟨k, o, none⟩) := by cases hp; exact ⟨_, _, rfl⟩
  obtain ⟨b2, o2, rfl⟩ : ∃ k o, q = .pointer (some ⟨k, o, none⟩) := by cases hq; exact ⟨_, _, rfl⟩
  refine iter_exec (cf := cf) cfok (fn := Try.f30) Try.func30 rfl [.bx 0 0, .bx 1 0] [.rp [] [.v (.int .i64 n)], .rp [] [.v (.bool back)]] n (rowV n back) (ρ := fun i => if i = 0 then .pointer (some ⟨b1, o1, none⟩) else .pointer (some ⟨b2, o2, none⟩)) rfl rfl (by simp [svOkL, svOk]) hS ⟨hp, hq, trivial⟩ rfl (fun l => ?_)
  refine ⟨{ j : Nat // j ≤ n }, fun j => ⟨19, [⟨0, [], .v (.func (.yield l) #[] #[])⟩, ⟨1, [], .bx 0 0⟩, ⟨2, [], .bx 1 0⟩, ⟨5, [], .v (.int .i64 n)⟩, ⟨6, [], .v (.int .i64 j.1)⟩], [.rp [] [.v (.int .i64 n)], .rp [] [.v (.bool back)], .yk l true j.1], [], dropL nats 3⟩,
    fun j => n - j.1, ⟨[0, 1, 2], ⟨0, Nat.zero_le _⟩, ?_⟩, fun j => ?_⟩
  · exact And.intro (And.intro (rfl) (And.intro (rfl) (And.intro (rfl) (And.intro (rfl) (And.intro (rfl) trivial))))) (And.intro (⟨rfl, rfl⟩) (And.intro (⟨rfl, rfl⟩) (And.intro (rfl) trivial)))
  obtain ⟨j, hj⟩ := j
  refine And.intro (fun hlt => ?_) (fun hge => ?_)
  · have hlt : j < n := by have : (j : Int) < (n : Int) := of_decide_eq_true hlt
                           omega
    refine And.intro (fun hb => ?_) (fun hb => ?_)
    · have hb : back = true := hb
      subst hb
      refine ⟨2, j, rfl, rfl, by show j < n; omega, ?_, ?_, ?_⟩
      · intro ρ
        show [Value.int .i64 (IntKind.i64.wrap (IntKind.i64.wrap ((n : Int) - 1) - (j : Int)))] = [Value.int .i64 ((rowJ n true j : Nat) : Int)]
        rw [i64_id ((n : Int) - 1) (by omega) (by omega), i64_id _ (by omega) (by omega), show ((rowJ n true j : Nat) : Int) = (n : Int) - 1 - (j : Int) from by unfold rowJ; rw [if_pos rfl]; omega]
      · refine And.intro (fun h => by cases h) (fun _ => ?_)
        exact ⟨[0, 1, 2], ⟨j + 1, hlt⟩, And.intro (And.intro (rfl) (And.intro (rfl) (And.intro (rfl) (And.intro (rfl) (And.intro (svI (i64_succ j (by omega))) trivial))))) (And.intro (⟨rfl, rfl⟩) (And.intro (⟨rfl, rfl⟩) (And.intro (rfl) trivial))), by show n - (j + 1) < n - j; omega⟩
      · exact And.intro (fun _ => And.intro (fun h => by cases h) (by show j + 1 ≤ n; omega)) (fun h => by cases h)
    · have hb : back = false := hb
      subst hb
      refine ⟨2, j, rfl, rfl, by show j < n; omega, fun _ => rfl, ?_, ?_⟩
      · refine And.intro (fun h => by cases h) (fun _ => ?_)
        exact ⟨[0, 1, 2], ⟨j + 1, hlt⟩, And.intro (And.intro (rfl) (And.intro (rfl) (And.intro (rfl) (And.intro (rfl) (And.intro (svI (i64_succ j (by omega))) trivial))))) (And.intro (⟨rfl, rfl⟩) (And.intro (⟨rfl, rfl⟩) (And.intro (rfl) trivial))), by show n - (j + 1) < n - j; omega⟩
      · exact And.intro (fun _ => And.intro (fun h => by cases h) (by show j + 1 ≤ n; omega)) (fun h => by cases h)
  · have hge : j = n := by have : ¬ (j : Int) < (n : Int) := of_decide_eq_false hge
                           omega
    exact And.intro (fun _ => by show j = n; omega) (by show j ≤ n; omega)
end Go.Proofs.Ytaiapnemlnmeiaa
