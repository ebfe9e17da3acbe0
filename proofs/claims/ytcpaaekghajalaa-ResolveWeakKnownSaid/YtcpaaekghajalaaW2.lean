/- calamuslaw11's is and own, slices.Clone and slices.Backward over classes: what they compute, for every input. -/
import Derived.Test.YtcpaaekghajalaaW1
namespace Go.Proofs.Ytcpaaekghajalaa
open Go Go.Eng Go.RowKit

theorem side2_c (c : Int) (w : World) : Calls Try.prog 33 #[.int .u8 c] w fun e w' => e = .returned (.int .u8 (sideF c)) ∧ Below w.heap.size w w' := by
  refine calls_exec (cf := cf) cfok (fn := Try.f33) Try.func33 rfl [.v (.int .u8 c)] [] (ρ := fun _ => undef) (· < w.heap.size) rfl rfl rfl (by simp [svOkL, svOk]) (memNil fun _ h => h) ?_
  by_cases h1 : c = 1
  · subst h1
    exact And.intro (fun _ ρ S w' hi => ⟨rfl, hi.below⟩) (fun h => by cases h)
  · have e1 : decide (c = 1) = false := by simpa using h1
    refine And.intro (fun h => absurd h (by simp [e1])) (fun _ => ?_)
    have key : ∀ r : Int, (c = 2 ∨ c = 4 ∨ c = 7 → r = 2) → ((¬ (c = 2 ∨ c = 4 ∨ c = 7)) → r = 0) → r = sideF c := by
      intro r g1 g2
      simp only [sideF, if_neg h1]
      by_cases h : c = 2 ∨ c = 4 ∨ c = 7
      · rw [if_pos h]; exact g1 h
      · rw [if_neg h]; exact g2 h
    refine And.intro (fun h => And.intro (fun _ ρ S w' hi => ⟨by rw [← key 2 (fun _ => rfl) (fun g => absurd (.inl (by simpa using h)) g)]; rfl, hi.below⟩) (fun h' => Bool.noConfusion (h'.symm.trans h))) (fun n2 => ?_)
    refine And.intro (fun h => And.intro (fun _ ρ S w' hi => ⟨by rw [← key 2 (fun _ => rfl) (fun g => absurd (.inr (.inl (by simpa using h))) g)]; rfl, hi.below⟩) (fun h' => Bool.noConfusion (h'.symm.trans h))) (fun n4 => ?_)
    refine And.intro (fun h ρ S w' hi => ⟨by rw [← key 2 (fun _ => rfl) (fun g => absurd (.inr (.inr (by simpa using h))) g)]; rfl, hi.below⟩) (fun n7 ρ S w' hi => ⟨?_, hi.below⟩)
    rw [← key 0 (fun g => absurd g (by simp at n2 n4 n7; simp [n2, n4, n7])) (fun _ => rfl)]; rfl

/-- are two rows the same? -/
theorem nth_ext {xs ys : List Int} (hl : xs.length = ys.length) (h : ∀ j, j < xs.length → nth xs j = nth ys j) : xs = ys := by
  refine List.ext_getElem hl fun j h1 h2 => ?_
  have := h j h1
  rwa [nth_eq xs j h1, nth_eq ys j h2] at this

theorem is_c (xs ys : List Int) (v u : Value) (w : World) (hl : xs.length ≤ 9223372036854775000) (hl2 : ys.length ≤ 9223372036854775000) (hv : Rd w v 1 cE xs) (hu : Rd w u 1 cE ys) :
    Calls Try.prog 17 #[v, u] w fun e w' => e = .returned (.bool (decide (xs = ys))) ∧ Below w.heap.size w w' := by
  refine calls_exec (cf := cf) cfok (fn := Try.f17) Try.func17 rfl [.sl 0, .sl 1] [.rd Int inferInstance 1 cE xs, .rd Int inferInstance 1 cE ys] (ρ := fun i => match i with | 0 => v | _ => u) (· < w.heap.size) rfl rfl rfl (by simp [svOkL, svOk]) (memRd (fun _ h => h) ⟨hv, hu, trivial⟩) ?_
  refine And.intro (fun h => ?_) (fun h => ?_)
  · have h : ¬ (xs.length : Int) = ys.length := by simpa using h
    refine fun ρ S w' hi => ⟨?_, hi.below⟩
    have : ¬ xs = ys := fun e => h (by rw [e])
    rw [decide_eq_false this]; rfl
  · have h : xs.length = ys.length := by have : (xs.length : Int) = ys.length := by simpa using h
                                         (first | omega | (dsimp only at *; omega))
    refine ⟨{ i : Nat // i ≤ xs.length ∧ ∀ j, j < i → nth xs j = nth ys j },
      fun i => ⟨26, [⟨0, [], .sl 0⟩, ⟨1, [], .sl 1⟩, ⟨5, [], .v (.int .i64 i.1)⟩], [.rd Int inferInstance 1 cE xs, .rd Int inferInstance 1 cE ys], [], dropL nats 2⟩,
      fun i => xs.length - i.1, ⟨[0, 1], ⟨0, by (first | omega | (dsimp only at *; omega)), fun j hj => by (first | omega | (dsimp only at *; omega))⟩, ?_⟩, fun i => ?_⟩
    · exact And.intro (And.intro rfl (And.intro rfl (And.intro rfl trivial))) (And.intro rfl (And.intro rfl trivial))
    · obtain ⟨i, hi, hall⟩ := i
      refine And.intro (fun hlt => ?_) (fun hge => ?_)
      · have hlt : i < xs.length := by simpa using hlt
        refine Or.inl ⟨by kernel_rfl, ?_⟩
        refine And.intro ⟨by (first | omega | (dsimp only at *; omega)), by simpa using hlt⟩ ?_
        refine And.intro ⟨by (first | omega | (dsimp only at *; omega)), by (first | omega | (dsimp only at *; omega))⟩ ?_
        refine And.intro (fun hb => ?_) (fun hb => ?_)
        · have hb : ¬ nth xs i = nth ys i := by simpa using hb
          refine fun ρ S w' hi' => ⟨?_, hi'.below⟩
          have : ¬ xs = ys := fun e => hb (by rw [e])
          rw [decide_eq_false this]; rfl
        · have hb : nth xs i = nth ys i := by simpa using hb
          refine ⟨[0, 1], ⟨i + 1, hlt, fun j hj => ?_⟩, And.intro (And.intro rfl (And.intro rfl (And.intro (sv_i64 (i64_succ i (by (first | omega | (dsimp only at *; omega))))) trivial))) (And.intro rfl (And.intro rfl trivial)), by show _ - (i + 1) < _ - i; (first | omega | (dsimp only at *; omega))⟩
          by_cases e : j = i
          · subst e; exact hb
          · exact hall j (by (first | omega | (dsimp only at *; omega)))
      · have hge : i = xs.length := by have : ¬ i < xs.length := by simpa using hge
                                       (first | omega | (dsimp only at *; omega))
        refine fun ρ S w' hi' => ⟨?_, hi'.below⟩
        have : xs = ys := nth_ext h (fun j hj => hall j (by (first | omega | (dsimp only at *; omega))))
        rw [decide_eq_true this]; rfl

theorem rowsRd (st : St) (xs : List Int) : rowsAs st (.rd Int inferInstance 1 cE xs) Int inferInstance 1 cE xs := And.intro rfl (And.intro rfl (fun i _ => And.intro rfl rfl))

theorem own_c (xs : List Int) (v : Value) (w : World) (hl : xs.length ≤ 1000000) (hv : Rd w v 1 cE xs) :
    Calls Try.prog 16 #[v] w fun e w' => ∃ u, e = .returned u ∧ Below w.heap.size w w' ∧ Fresh w w' u 23 1 cE xs := by
  refine calls_exec (cf := cf) cfok (fn := Try.f16) Try.func16 rfl [.sl 0] [.rd Int inferInstance 1 cE xs] (ρ := fun _ => v) (· < w.heap.size) rfl rfl rfl (by simp [svOkL, svOk]) (memRd (fun _ h => h) ⟨hv, trivial⟩) ?_
  refine ⟨Int, inferInstance, cE, xs, rowsRd _ xs, by show xs.length * 1 ≤ _; (first | omega | (dsimp only at *; omega)), ?_⟩
  exact fun ρ S w' hi => ⟨_, rfl, hi.below, hi.fresh 1 cE_flat rfl rfl⟩

theorem clone_c (xs : List Int) (v : Value) (w : World) (hl : xs.length ≤ 1000000) (hv : Rd w v 1 cE xs) :
    Calls Try.prog 27 #[v] w fun e w' => ∃ u, e = .returned u ∧ Below w.heap.size w w' ∧ Fresh w w' u 23 1 cE xs := by
  refine calls_exec (cf := cf) cfok (fn := Try.f27) Try.func27 rfl [.sl 0] [.rd Int inferInstance 1 cE xs] (ρ := fun _ => v) (· < w.heap.size) rfl rfl rfl (by simp [svOkL, svOk]) (memRd (fun _ h => h) ⟨hv, trivial⟩) ?_
  refine fun b hb => And.intro (fun h => ?_) (fun _ => ?_)
  · have hx : xs = [] := List.eq_nil_of_length_eq_zero (hb h)
    subst hx
    exact fun ρ S w' hi => ⟨_, rfl, hi.below, Fresh.nil _ _ _ _ _⟩
  · refine ⟨Int, inferInstance, cE, [], xs, And.intro rfl (And.intro rfl (fun y hy => by simp at hy)), rowsRd _ xs, by show (0 + xs.length) * 1 ≤ _; (first | omega | (dsimp only at *; omega)), ?_⟩
    exact fun ρ S w' hi => ⟨_, rfl, hi.below, hi.fresh 2 cE_flat rfl rfl⟩

theorem backward_c (xs : List Int) (v : Value) (w : World) (S : Nat → Prop) (hS : ∀ b, S b → b < w.heap.size) (hv : DRep S w (.sl Int inferInstance 1 cE xs) v) :
    Calls Try.prog 29 #[v] w fun e w' => ∃ u, e = .returned (.func (.func 44) #[] #[u]) ∧ Below w.heap.size w w' ∧ DRep (fun b => S b ∨ (w.heap.size ≤ b ∧ b < w'.heap.size)) w' (.ptr [.sl Int inferInstance 1 cE xs]) u := by
  refine calls_exec2 (cf := cf) cfok rfl rfl (fn := Try.f29) Try.func29 rfl [.sl 0] [.rd Int inferInstance 1 cE xs] (ρ := fun _ => v) (· < w.heap.size) S rfl rfl rfl (by simp [svOkL, svOk]) rfl (memRd hS ⟨hv, trivial⟩) (fun b hb => ⟨hb, fun i hi => by match i, hi with | 0, _ => simp [chGet, ownBlk]⟩) ?_
  exact fun ρ S' w' hi => ⟨_, rfl, hi.below, hi.ptr 1 rfl rfl _ rfl⟩

/-- the loop's body gets the places from the last on -/
def backV (xs : List Int) (j : Nat) : List Value := [.int .i64 (((xs.length - 1 - j : Nat)) : Int), .int .u8 (nth xs (xs.length - 1 - j))]

theorem back_iter (xs : List Int) (p : Value) (w : World) (S : Nat → Prop) (hl : xs.length ≤ 1000000) (hS : ∀ b, S b → b < w.heap.size) (hp : DRep S w (.ptr [.sl Int inferInstance 1 cE xs]) p) : IterX Try.prog 44 #[p] xs.length (fun j => (backV xs j).toArray) S w := by
  cases hp with
  | ptr b o cell hb hcell hrep =>
  refine iter_exec (cf := cf) cfok (fn := Try.f44) Try.func44 rfl [.bx 0 0] [.rp [] [.sl Int inferInstance 1 cE xs]] xs.length (backV xs) (ρ := fun _ => .pointer (some ⟨b, o, none⟩)) rfl rfl (by simp [svOkL, svOk]) hS ⟨.ptr b o cell hb hcell hrep, trivial⟩ rfl (fun l => ?_)
  refine ⟨{ j : Nat // j ≤ xs.length }, fun j => ⟨19, [⟨0, [], .v (.func (.yield l) #[] #[])⟩, ⟨1, [], .bx 0 0⟩, ⟨3, [], .v (.int .i64 ((xs.length : Int) - 1 - j.1))⟩], [.rp [] [.sl Int inferInstance 1 cE xs], .yk l true j.1], [], dropL nats 2⟩,
    fun j => xs.length - j.1, ⟨[0, 1], ⟨0, by (first | omega | (dsimp only at *; omega))⟩, ?_⟩, fun j => ?_⟩
  · exact And.intro (And.intro rfl (And.intro rfl (And.intro (sv_i64 (by rw [i64_id _ (by (first | omega | (dsimp only at *; omega))) (by (first | omega | (dsimp only at *; omega)))]; (first | omega | (dsimp only at *; omega)))) trivial))) (And.intro (And.intro rfl rfl) (And.intro rfl trivial))
  · obtain ⟨j, hj⟩ := j
    refine And.intro (fun hlt => ?_) (fun hge => ?_)
    · have hlt : j < xs.length := by have : (xs.length : Int) - 1 - j ≥ 0 := by simpa using hlt
                                     (first | omega | (dsimp only at *; omega))
      refine And.intro ⟨by (first | omega | (dsimp only at *; omega)), by (first | omega | (dsimp only at *; omega))⟩ ?_
      refine ⟨1, j, rfl, rfl, hlt, ?_, ?_, ?_⟩
      · show [SV.v _, SV.v _] = [SV.v _, SV.v _]
        have e1 : ((xs.length : Int) - 1 - j) = ((xs.length - 1 - j : Nat) : Int) := by (first | omega | (dsimp only at *; omega))
        rw [e1]; rfl
      · refine And.intro (fun h => by cases h) (fun _ => ?_)
        refine ⟨[0, 1], ⟨j + 1, hlt⟩, And.intro (And.intro rfl (And.intro rfl (And.intro (sv_i64 (by rw [i64_id _ (by (first | omega | (dsimp only at *; omega))) (by (first | omega | (dsimp only at *; omega)))]; (first | omega | (dsimp only at *; omega)))) trivial))) (And.intro (And.intro rfl rfl) (And.intro rfl trivial)), by show _ - (j + 1) < _ - j; (first | omega | (dsimp only at *; omega))⟩
      · exact And.intro (fun _ => And.intro (fun h => by cases h) (by (first | omega | (dsimp only at *; omega)))) (fun h => by cases h)
    · have hge : j = xs.length := by have : ¬ (xs.length : Int) - 1 - j ≥ 0 := by simpa using hge
                                     (first | omega | (dsimp only at *; omega))
      exact And.intro (fun _ => hge) (by (first | omega | (dsimp only at *; omega)))

end Go.Proofs.Ytcpaaekghajalaa
