/- The deferred function of gpos.Parse, Open as one's own, and the methods of the kinds. -/
import Derived.Test.YtalploampmdemaaM8
set_option maxRecDepth 100000
set_option linter.unusedVariables false
namespace Go.Proofs.Ytalploampmdemaa
open Go Go.Eng Go.RowKit

theorem pure_assertOk {P : Program} {st : Eng.St} {L : List (Nat × Bool)} {x : Operand} {xT ty : Nat} {v : Value} (hx : getV st L x = some (.v (.iface ty v))) {d : TypeDesc} (hu : P.underlying ty = some d) (hd : ∀ ms, d ≠ .interface ms) : PureQ P st L (.typeAssert x xT ty true) (.tuple #[v, .bool true]) := by
  intro ρ S w ev o _ hL he ho
  have e1 := he x _ hx
  simp only [den] at e1
  have : (Instr.typeAssert (.iface ty v) xT ty true).run P w = .ok (.tuple #[v, .bool true]) w := by
    simp only [Instr.typeAssert, Sem.run_bind, run_underlying hu, Result.andThen_ok]
    cases d <;> first | (simp; done) | exact absurd rfl (hd _)
  simp [execOp, ho, e1, this]
theorem pure_assertNo {P : Program} {st : Eng.St} {L : List (Nat × Bool)} {x : Operand} {xT ty t' : Nat} {v z : Value} (hx : getV st L x = some (.v (.iface t' v))) (hne : t' ≠ ty) {d : TypeDesc} (hu : P.underlying ty = some d) (hd : ∀ ms, d ≠ .interface ms) (hz : ∀ w, (zeroValue ty).run P w = .ok z w) : PureQ P st L (.typeAssert x xT ty true) (.tuple #[z, .bool false]) := by
  intro ρ S w ev o _ hL he ho
  have e1 := he x _ hx
  simp only [den] at e1
  have : (Instr.typeAssert (.iface t' v) xT ty true).run P w = .ok (.tuple #[z, .bool false]) w := by
    simp only [Instr.typeAssert, Sem.run_bind, run_underlying hu, Result.andThen_ok]
    cases d <;> first | (simp [hne, hz, Result.andThen]; done) | exact absurd rfl (hd _)
  simp [execOp, ho, e1, this]
theorem pure_assertNil {P : Program} {st : Eng.St} {L : List (Nat × Bool)} {x : Operand} {xT ty : Nat} {z : Value} (hx : getV st L x = some (.v .nilIface)) {d : TypeDesc} (hu : P.underlying ty = some d) (hd : ∀ ms, d ≠ .interface ms) (hz : ∀ w, (zeroValue ty).run P w = .ok z w) : PureQ P st L (.typeAssert x xT ty true) (.tuple #[z, .bool false]) := by
  intro ρ S w ev o _ hL he ho
  have e1 := he x _ hx
  simp only [den] at e1
  have : (Instr.typeAssert .nilIface xT ty true).run P w = .ok (.tuple #[z, .bool false]) w := by
    simp only [Instr.typeAssert, Sem.run_bind, run_underlying hu, Result.andThen_ok]
    cases d <;> first | (simp [hz, Result.andThen]; done) | exact absurd rfl (hd _)
  simp [execOp, ho, e1, this]
/-- the results' boxes, whatever they hold, given up -/
abbrev gone : List Chunk := [.bx 24 [nilS], .bx 25 [nilS], .bx 26 [.v (.int .i64 50)]]
theorem rec_a (e : Int) : DCall Try.prog ⟨0, [], [.bx 24 [nilS], .bx 25 [nilS], .bx 26 [.v (.int .i64 e)]], [], []⟩ 17 [.bx 0 0, .bx 1 0, .bx 2 0] (.panicking wrongP) (fun u' st' => st'.ch = gone ∧ u' = .returning) := by
  refine dcall_rec (cf := cf) cfok (fn := Try.f17) Try.func17 rfl rfl rfl rfl rfl rfl rfl rfl rfl rfl [.bx 0 0, .bx 1 0, .bx 2 0] ([.bx 24 [nilS], .bx 25 [nilS], .bx 26 [.v (.int .i64 e)]]) (gone) (.panicking wrongP) (.iface 63 (.agg #[])) rfl rfl rfl (by simp [svOkL, svOk]) rfl (by exact ⟨trivial, trivial, trivial, trivial⟩) rfl ?_
  refine ⟨.bool true, pure_neqNil (by kernel_rfl) rfl true (.inr ⟨⟨_, _, rfl⟩, rfl⟩), ?_⟩
  refine And.intro (fun _ => ?_) (fun h => by cases h)
  refine ⟨.tuple #[.agg #[], .bool true], pure_assertOk rfl Try.underlying63 (by simp), ?_⟩
  refine And.intro (fun h => by cases h) (fun _ => ?_)
  exact And.intro rfl ⟨[0, 1, 2], rfl, rfl, rfl, And.intro (And.intro rfl rfl) (And.intro (And.intro rfl rfl) (And.intro (And.intro rfl rfl) trivial))⟩
theorem rec_b (e : Int) : DCall Try.prog ⟨0, [], [.bx 24 [nilS], .bx 25 [.sl 3], .bx 26 [.v (.int .i64 e)], .dead], [], []⟩ 17 [.bx 0 0, .bx 1 0, .bx 2 0] (.panicking wrongP) (fun u' st' => st'.ch = gone ++ [.dead] ∧ u' = .returning) := by
  refine dcall_rec (cf := cf) cfok (fn := Try.f17) Try.func17 rfl rfl rfl rfl rfl rfl rfl rfl rfl rfl [.bx 0 0, .bx 1 0, .bx 2 0] ([.bx 24 [nilS], .bx 25 [.sl 3], .bx 26 [.v (.int .i64 e)], .dead]) (gone ++ [.dead]) (.panicking wrongP) (.iface 63 (.agg #[])) rfl rfl rfl (by simp [svOkL, svOk]) rfl (by exact ⟨trivial, trivial, trivial, trivial, trivial⟩) rfl ?_
  refine ⟨.bool true, pure_neqNil (by kernel_rfl) rfl true (.inr ⟨⟨_, _, rfl⟩, rfl⟩), ?_⟩
  refine And.intro (fun _ => ?_) (fun h => by cases h)
  refine ⟨.tuple #[.agg #[], .bool true], pure_assertOk rfl Try.underlying63 (by simp), ?_⟩
  refine And.intro (fun h => by cases h) (fun _ => ?_)
  exact And.intro rfl ⟨[0, 1, 2, 3], rfl, rfl, rfl, And.intro (And.intro rfl rfl) (And.intro (And.intro rfl rfl) (And.intro (And.intro rfl rfl) (And.intro trivial trivial)))⟩
theorem rec_c (e : Int) : DCall Try.prog ⟨0, [], [.bx 24 [.sl 3], .bx 25 [.sl 4], .bx 26 [.v (.int .i64 e)], .dead, .dead], [], []⟩ 17 [.bx 0 0, .bx 1 0, .bx 2 0] (.panicking wrongP) (fun u' st' => st'.ch = gone ++ [.dead, .dead] ∧ u' = .returning) := by
  refine dcall_rec (cf := cf) cfok (fn := Try.f17) Try.func17 rfl rfl rfl rfl rfl rfl rfl rfl rfl rfl [.bx 0 0, .bx 1 0, .bx 2 0] ([.bx 24 [.sl 3], .bx 25 [.sl 4], .bx 26 [.v (.int .i64 e)], .dead, .dead]) (gone ++ [.dead, .dead]) (.panicking wrongP) (.iface 63 (.agg #[])) rfl rfl rfl (by simp [svOkL, svOk]) rfl (by exact ⟨trivial, trivial, trivial, trivial, trivial, trivial⟩) rfl ?_
  refine ⟨.bool true, pure_neqNil (by kernel_rfl) rfl true (.inr ⟨⟨_, _, rfl⟩, rfl⟩), ?_⟩
  refine And.intro (fun _ => ?_) (fun h => by cases h)
  refine ⟨.tuple #[.agg #[], .bool true], pure_assertOk rfl Try.underlying63 (by simp), ?_⟩
  refine And.intro (fun h => by cases h) (fun _ => ?_)
  exact And.intro rfl ⟨[0, 1, 2, 3, 4], rfl, rfl, rfl, And.intro (And.intro rfl rfl) (And.intro (And.intro rfl rfl) (And.intro (And.intro rfl rfl) (And.intro trivial (And.intro trivial trivial))))⟩
end Go.Proofs.Ytalploampmdemaa
