/- cover.room; slices.Clone and bin.Open; slices.Chunk and Words. -/
import Derived.Test.YtalploampmdemaaR1
namespace Go.Proofs.Ytalploampmdemaa
open Go Go.Eng Go.RowKit

theorem room_c (b : List Int) (at' n : Int) (hb : b.length ≤ 1099511627776) (ha : IntKind.i64.wrap at' = at') (v : Value) (w : World) (hv : Rdr w v b) :
    Calls Try.prog 36 #[v, .int .i64 at', .int .i64 n] w fun e w' => e = .returned (.bool (roomF b at' n)) ∧ Below w.heap.size w w' := by
  obtain ⟨k, o, rfl⟩ := hv.val
  have hmax : at' ≤ 9223372036854775807 := by rw [← ha, IntKind.wrap_i64]; omega
  refine calls_exec (cf := cf) cfok (fn := Try.f36) Try.func36 rfl [.bx 0 0, .v (.int .i64 at'), .v (.int .i64 n)] [.rp [] (rdD b)] (ρ := fun _ => .pointer (some ⟨k, o, none⟩)) (· < w.heap.size) rfl rfl rfl (by simp [svOkL, svOk]) (memRd (fun _ h => h) ⟨hv, trivial⟩) ?_
  refine Or.inl ⟨_, fun ρ S w hm => bad_c b _ w (hm.rp 0 rfl rfl), ?_⟩
  refine Or.inl ⟨_, fun _ ρ S w hm => len_c b _ w (hm.rp 0 rfl rfl), ?_⟩
  refine Or.inl ⟨_, fun _ ρ S w hm => len_c b _ w (hm.rp 0 rfl rfl), ?_⟩
  refine fun ρ S w' hi => ⟨?_, hi.below⟩
  have e : ((((!false && decide (at' ≥ 0)) && decide (n ≥ 0)) && decide (at' ≤ (b.length : Int))) && decide (n ≤ IntKind.i64.wrap ((b.length : Int) - at'))) = roomF b at' n := by
    rw [← room_eq]
    unfold roomA
    by_cases h : at' ≥ 0
    · rw [i64_id ((b.length : Int) - at') (by omega) (by omega)]
    · rw [decide_eq_false h]; simp
  rw [← e]
  rfl

theorem clone_c (xs : List Int) (v : Value) (w : World) (hl : xs.length ≤ 1000000) (hv : Rd w v 1 bE xs) :
    Calls Try.prog 25 #[v] w fun e w' => ∃ u, e = .returned u ∧ Below w.heap.size w w' ∧ Fresh w w' u 5 1 bE xs := by
  refine calls_exec (cf := cf) cfok (fn := Try.f25) Try.func25 rfl [.sl 0] [.rd Int inferInstance 1 bE xs] (ρ := fun _ => v) (· < w.heap.size) rfl rfl rfl (by simp [svOkL, svOk]) (memRd (fun _ h => h) ⟨hv, trivial⟩) ?_
  refine fun b hb => And.intro (fun h => ?_) (fun _ => ?_)
  · have hx : xs = [] := List.eq_nil_of_length_eq_zero (hb h)
    subst hx
    exact fun ρ S w' hi => ⟨_, rfl, hi.below, Fresh.nil _ _ _ _ _⟩
  · refine ⟨Int, inferInstance, bE, [], xs, And.intro rfl (And.intro rfl (fun y hy => by simp at hy)), And.intro rfl (And.intro rfl (fun i _ => And.intro rfl rfl)), by show (0 + xs.length) * 1 ≤ _; omega, ?_⟩
    exact fun ρ S w' hi => ⟨_, rfl, hi.below, hi.fresh 2 ⟨fun n => [.int .u8 n], fun _ => rfl⟩ rfl rfl⟩

theorem rd_own {chs : List Chunk} {ρ : Nat → Value} (h : chs.all (fun c => match c with | .rd .. => true | .rp .. => true | _ => false) = true) (b : Nat) : ∀ i, i < chs.length → ownBlk (chGet chs i) (ρ i) ≠ some b := by
  have key : ∀ (chs : List Chunk), chs.all (fun c => match c with | .rd .. => true | .rp .. => true | _ => false) = true → ∀ i, ∀ v, ownBlk (chGet chs i) v = none := by
    intro chs
    induction chs with
    | nil => intro _ i v; rfl
    | cons c r ih =>
      intro h i v
      rw [List.all_cons, Bool.and_eq_true] at h
      cases i with
      | zero =>
        have h1 := h.1
        cases c <;> first | rfl | cases h1
      | succ i => exact ih h.2 i v
  intro i _ e
  rw [key chs h i] at e
  cases e

/-- a reader over a copy of the bytes -/
theorem open_c (xs : List Int) (v : Value) (w : World) (S : Nat → Prop) (hS : ∀ b, S b → b < w.heap.size) (hl : xs.length ≤ 1000000) (hv : DRep S w (.sl Int inferInstance 1 bE xs) v) :
    Calls Try.prog 7 #[v] w fun e w' => ∃ u, e = .returned u ∧ Below w.heap.size w w' ∧ DRep (fun b => S b ∨ (w.heap.size ≤ b ∧ b < w'.heap.size)) w' (.ptr (rdD xs)) u := by
  refine calls_exec2 (cf := cf) cfok rfl rfl (fn := Try.f7) Try.func7 rfl [.sl 0] [.rd Int inferInstance 1 bE xs] (ρ := fun _ => v) (· < w.heap.size) S rfl rfl rfl (by simp [svOkL, svOk]) rfl (memRd hS ⟨hv, trivial⟩) (fun b hb => ⟨hb, rd_own rfl b⟩) ?_
  refine Or.inr (lcall_fresh xs (fun ρ S w hm => clone_c xs _ w hl (hm.rd 0 rfl rfl)) ?_)
  exact fun ρ S w' hi => ⟨_, rfl, hi.below, hi.rep 9 (.bx 3 0) (.ptr (rdD xs)) rfl rfl⟩
end Go.Proofs.Ytalploampmdemaa
