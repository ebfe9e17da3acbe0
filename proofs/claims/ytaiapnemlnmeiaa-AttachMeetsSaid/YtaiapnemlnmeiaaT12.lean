/- where glyphs are drawn, in plain Lean. -/
import Derived.Test.YtaiapnemlnmeiaaT11
namespace Go.Proofs.Ytaiapnemlnmeiaa
open Go Go.Eng Go.RowKit

structure D2 where
  x : Int
  y : Int
  deriving Inhabited
structure Gl where
  id : Int
  first : Int
  last : Int
  adv : Int
  x : Int
  y : Int
  deriving Inhabited
abbrev d2E : D2 → List DV := fun d => [.v (.int .i32 d.x), .v (.int .i32 d.y)]
abbrev glE : Gl → List DV := fun g => [.v (.int .u16 g.id), .v (.int .i64 g.first), .v (.int .i64 g.last), .v (.int .i32 g.adv), .v (.int .i32 g.x), .v (.int .i32 g.y)]
def I32 (n : Int) : Prop := -2147483648 ≤ n ∧ n ≤ 2147483647

def penF (l : List Place) (back : Bool) : Nat → Int
  | 0 => 0
  | j + 1 => penF l back j + (nth l (rowJ l.length back j)).adv
def putF (l : List Place) (back : Bool) : Nat → List Int
  | 0 => List.replicate l.length 0
  | j + 1 => (putF l back j).set (rowJ l.length back j) (penF l back j)
def drE (l : List Place) (put : List Int) (D : List D2) (i : Nat) : D2 :=
  if (nth l i).on ≥ 0 then ⟨(nth D (nth l i).on.toNat).x + (nth l i).x, (nth D (nth l i).on.toNat).y + (nth l i).y⟩ else ⟨nth put i, 0⟩
def drF (l : List Place) (put : List Int) : Nat → List D2
  | 0 => List.replicate l.length ⟨0, 0⟩
  | i + 1 => (drF l put i).set i (drE l put (drF l put i) i)
def glP (l : List Place) (put : List Int) (D : List D2) (i : Nat) : Gl := ⟨0, i, i + 1, (nth l i).adv, (drE l put D i).x - nth put i, (drE l put D i).y⟩
def glF (l : List Place) (put : List Int) : Nat → List Gl
  | 0 => List.replicate l.length ⟨0, 0, 0, 0, 0, 0⟩
  | i + 1 => (glF l put i).set i (glP l put (drF l put i) i)
def originsF (l : List Place) (back : Bool) : List Gl := glF l (putF l back l.length) l.length

structure OrgOk (l : List Place) (back : Bool) : Prop where
  on : ∀ i, i < l.length → -1 ≤ (nth l i).on ∧ (nth l i).on < i
  pl : ∀ i, i < l.length → I32 (nth l i).adv ∧ I32 (nth l i).x ∧ I32 (nth l i).y
  pen : ∀ j, j ≤ l.length → I32 (penF l back j)
  dr : ∀ i, i < l.length → I32 (drE l (putF l back l.length) (drF l (putF l back l.length) i) i).x ∧ I32 (drE l (putF l back l.length) (drF l (putF l back l.length) i) i).y
  df : ∀ i, i < l.length → I32 ((drE l (putF l back l.length) (drF l (putF l back l.length) i) i).x - nth (putF l back l.length) i)

theorem rowJ_lt {n : Nat} {back : Bool} {j : Nat} (h : j < n) : rowJ n back j < n := by
  unfold rowJ; split <;> omega
theorem putF_len (l : List Place) (back : Bool) : ∀ j, (putF l back j).length = l.length
  | 0 => by unfold putF; rw [List.length_replicate]
  | j + 1 => by unfold putF; rw [List.length_set, putF_len l back j]
theorem drF_len (l : List Place) (put : List Int) : ∀ i, (drF l put i).length = l.length
  | 0 => by unfold drF; rw [List.length_replicate]
  | i + 1 => by unfold drF; rw [List.length_set, drF_len l put i]
theorem glF_len (l : List Place) (put : List Int) : ∀ i, (glF l put i).length = l.length
  | 0 => by unfold glF; rw [List.length_replicate]
  | i + 1 => by unfold glF; rw [List.length_set, glF_len l put i]
theorem nth_rep {α : Type} [Inhabited α] (n : Nat) (z : α) (i : Nat) (h : i < n) : nth (List.replicate n z) i = z := by
  unfold nth
  rw [List.getD_eq_getElem?_getD, List.getElem?_replicate, if_pos h]
  rfl
theorem putF_I32 {l : List Place} {back : Bool} (h : ∀ j, j ≤ l.length → I32 (penF l back j)) : ∀ j, j ≤ l.length → ∀ k, k < l.length → I32 (nth (putF l back j) k)
  | 0, _, k, hk => by unfold putF; rw [nth_rep _ _ _ hk]; exact ⟨by decide, by decide⟩
  | j + 1, hj, k, hk => by
    unfold putF
    by_cases e : k = rowJ l.length back j
    · rw [e, nth_set _ (by rw [putF_len]; exact rowJ_lt (by omega))]
      exact h j (by omega)
    · rw [nth_set_ne _ e]
      exact putF_I32 h j (by omega) k hk
theorem drF_I32 {l : List Place} {put : List Int} (h : ∀ i, i < l.length → I32 (drE l put (drF l put i) i).x ∧ I32 (drE l put (drF l put i) i).y) : ∀ i, i ≤ l.length → ∀ k, k < l.length → I32 (nth (drF l put i) k).x ∧ I32 (nth (drF l put i) k).y
  | 0, _, k, hk => by unfold drF; rw [nth_rep _ _ _ hk]; exact ⟨⟨by decide, by decide⟩, ⟨by decide, by decide⟩⟩
  | i + 1, hi, k, hk => by
    unfold drF
    by_cases e : k = i
    · rw [e, nth_set _ (by rw [drF_len]; omega)]
      exact h i (by omega)
    · rw [nth_set_ne _ e]
      exact drF_I32 h i (by omega) k hk
theorem narrow_add {a b : Int} (ha : I32 a) (hb : I32 b) : IntKind.i64.wrap (IntKind.i64.wrap a + IntKind.i64.wrap b) = a + b := by
  unfold I32 at ha hb
  rw [i64_id a (by omega) (by omega), i64_id b (by omega) (by omega), i64_id _ (by omega) (by omega)]
theorem narrow_sub {a b : Int} (ha : I32 a) (hb : I32 b) : IntKind.i64.wrap (IntKind.i64.wrap a - IntKind.i64.wrap b) = a - b := by
  unfold I32 at ha hb
  rw [i64_id a (by omega) (by omega), i64_id b (by omega) (by omega), i64_id _ (by omega) (by omega)]

abbrev chO (g : List Gl) : List Chunk := [.bx 34 [.v (.int .i64 0)], .bx 40 [.sl 2], .own 45 Gl inferInstance 6 glE g]
theorem or1_r (g : List Gl) : DCall Try.prog ⟨0, [], chO g, [], []⟩ 18 [.bx 0 0, .bx 1 0] .returning (fun u' st' => st'.ch = chO g ∧ u' = .returning) := by
  refine dcall_exec (cf := cf) cfok (fn := Try.f18) Try.func18 rfl rfl [.bx 0 0, .bx 1 0] (chO g) (chO g) rfl rfl (by simp [svOkL, svOk]) rfl ⟨trivial, trivial, ⟨Nat.le_refl _, rfl⟩, trivial⟩ rfl ?_
  refine And.intro (fun h => by cases h) (fun _ => ?_)
  exact And.intro rfl ⟨[0, 1, 2], rfl, rfl, rfl, (And.intro (⟨rfl, rfl⟩) (And.intro (⟨rfl, rfl⟩) (And.intro (rfl) trivial)))⟩
end Go.Proofs.Ytaiapnemlnmeiaa
