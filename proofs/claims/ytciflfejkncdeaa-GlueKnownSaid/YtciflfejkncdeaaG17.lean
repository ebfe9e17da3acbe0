/- glue: Spread and its reference. -/
import Derived.Test.YtciflfejkncdeaaG16
import Derived.Test.YtciflfejkncdeaaA5
namespace Go.Proofs.Ytciflfejkncdeaa
open Go Go.Eng Go.RowKit Go.Ar

abbrev owL (xs : List Int) : Chunk := .own 2 Int inferInstance 1 iE xs
theorem parts_c (sum n : Int) (w : World) (S : Nat → Prop) (hS : ∀ b, S b → b < w.heap.size) :
    Calls Try.prog 24 #[.int .i64 sum, .int .i64 n] w fun e w' => ∃ v u, e = .returned (.func (.func 27) #[] #[v, u]) ∧ Below w.heap.size w w' ∧ DRep (fun b => S b ∨ (w.heap.size ≤ b ∧ b < w'.heap.size)) w' (.ptr [.v (.int .i64 n)]) v ∧ DRep (fun b => S b ∨ (w.heap.size ≤ b ∧ b < w'.heap.size)) w' (.ptr [.v (.int .i64 sum)]) u := by
  refine calls_exec2 (cf := cf) cfok rfl rfl (fn := Try.f24) Try.func24 rfl [.v (.int .i64 sum), .v (.int .i64 n)] [] (ρ := fun _ => undef) (· < w.heap.size) S rfl rfl rfl (by simp [svOkL, svOk]) rfl (memNil hS) (fun b hb => ⟨hb, fun i hi => absurd hi (Nat.not_lt_zero _)⟩) ?_
  exact fun ρ S' w' hi => ⟨_, _, rfl, hi.below, hi.ptr 1 rfl rfl _ rfl, hi.ptr 0 rfl rfl _ rfl⟩

def partV (sum n : Int) (j : Nat) : List Value := [.int .i64 (cut sum n (j + 1) - cut sum n j)]
theorem parts_iter (sum n : Int) (p q : Value) (w : World) (S : Nat → Prop) (hn : 0 ≤ n) (hn2 : n ≤ 65536) (h1 : -1099511627776 ≤ sum) (h2 : sum ≤ 1099511627776) (hS : ∀ b, S b → b < w.heap.size)
    (hp : DRep S w (.ptr [.v (.int .i64 n)]) p) (hq : DRep S w (.ptr [.v (.int .i64 sum)]) q) : IterX Try.prog 27 #[p, q] n.toNat (fun j => (partV sum n j).toArray) S w := by
  cases hp with
  | ptr b o cell hb hcell hrep =>
  cases hq with
  | ptr b2 o2 cell2 hb2 hcell2 hrep2 =>
  refine iter_exec (cf := cf) cfok (fn := Try.f27) Try.func27 rfl [.bx 0 0, .bx 1 0] [.rp [] [.v (.int .i64 n)], .rp [] [.v (.int .i64 sum)]] n.toNat (partV sum n) (ρ := fun i => if i = 0 then .pointer (some ⟨b, o, none⟩) else .pointer (some ⟨b2, o2, none⟩)) rfl rfl (by simp [svOkL, svOk]) hS ⟨.ptr b o cell hb hcell hrep, .ptr b2 o2 cell2 hb2 hcell2 hrep2, trivial⟩ rfl (fun l => ?_)
  refine ⟨{ j : Nat // (j : Int) ≤ n }, fun j => ⟨28, [⟨0, [], .v (.func (.yield l) #[] #[])⟩, ⟨1, [], .bx 0 0⟩, ⟨2, [], .bx 1 0⟩, ⟨4, [], .v (.int .i64 (cut sum n j.1))⟩, ⟨8, [], .v (.int .i64 n)⟩, ⟨9, [], .v (.int .i64 j.1)⟩], [.rp [] [.v (.int .i64 n)], .rp [] [.v (.int .i64 sum)], .yk l true j.1], [], dropL nats 3⟩,
    fun j => n.toNat - j.1, ⟨[0, 1, 2], ⟨0, hn⟩, ?_⟩, fun j => ?_⟩
  · exact And.intro (And.intro rfl (And.intro rfl (And.intro rfl (And.intro (svI (cut_zero sum n).symm) (And.intro rfl (And.intro rfl trivial)))))) (And.intro (And.intro rfl rfl) (And.intro (And.intro rfl rfl) (And.intro rfl trivial)))
  obtain ⟨j, hj⟩ := j
  refine And.intro (fun hlt => ?_) (fun hge => ?_)
  · have hlt : (j : Int) < n := of_decide_eq_true hlt
    have hw : IntKind.i64.wrap ((j : Int) + 1) = ((j + 1 : Nat) : Int) := by rw [i64_id _ (by omega) (by omega)]; rfl
    have hc1 := cut_range (n := n) (by omega) h1 h2 (j := j + 1) (by omega)
    have hc0 := cut_range (n := n) (by omega) h1 h2 (j := j) hj
    refine Or.inl ⟨.tuple #[.int .i64 (cut sum n (j + 1)), .int .i64 0], fun ρ S w' _ => by
      show Calls _ 28 #[.int .i64 sum, .int .i64 (IntKind.i64.wrap ((j : Int) + 1)), .int .i64 n] _ _
      rw [hw]
      have := mulDiv_c sum ((j + 1 : Nat) : Int) n ⟨by omega, by omega⟩ ⟨by omega, by omega⟩ ⟨by omega, by omega⟩ w'
      rw [mulDiv_cut (by omega) h1 h2 (by omega)] at this
      exact this, ?_⟩
    refine ⟨2, j, rfl, rfl, by show j < n.toNat; omega, ?_, ?_, ?_⟩
    · show [SV.v (.int .i64 (IntKind.i64.wrap (cut sum n (j + 1) - cut sum n j)))] = [SV.v (.int .i64 (cut sum n (j + 1) - cut sum n j))]
      rw [i64_id _ (by omega) (by omega)]
    · refine And.intro (fun h => by cases h) (fun _ => ?_)
      exact ⟨[0, 1, 2], ⟨j + 1, by omega⟩, And.intro (And.intro rfl (And.intro rfl (And.intro rfl (And.intro rfl (And.intro rfl (And.intro (svI hw) trivial)))))) (And.intro (And.intro rfl rfl) (And.intro (And.intro rfl rfl) (And.intro rfl trivial))), by show n.toNat - (j + 1) < n.toNat - j; omega⟩
    · exact And.intro (fun _ => And.intro (fun h => by cases h) (by show j + 1 ≤ n.toNat; omega)) (fun h => by cases h)
  · have hge : ¬ (j : Int) < n := of_decide_eq_false hge
    exact And.intro (fun _ => by show j = n.toNat; omega) (by show j ≤ n.toNat; omega)

theorem notS (sum n : Int) : (((decide (n < 0) || decide (n > 65536)) || decide (sum < -1099511627776)) || decide (sum > 1099511627776)) = !okS sum n := by
  unfold okS
  rw [show decide (n < 0) = !decide (0 ≤ n) by rw [← decide_not]; exact decide_eq_decide.2 (by omega), show decide (n > 65536) = !decide (n ≤ 65536) by rw [← decide_not]; exact decide_eq_decide.2 (by omega),
    show decide (sum < -1099511627776) = !decide (-1099511627776 ≤ sum) by rw [← decide_not]; exact decide_eq_decide.2 (by omega), show decide (sum > 1099511627776) = !decide (sum ≤ 1099511627776) by rw [← decide_not]; exact decide_eq_decide.2 (by omega)]
  cases decide (0 ≤ n) <;> cases decide (n ≤ 65536) <;> cases decide (-1099511627776 ≤ sum) <;> cases decide (sum ≤ 1099511627776) <;> rfl
end Go.Proofs.Ytciflfejkncdeaa
