/- attach.worker.passed, narrow, and slices.IndexFunc over the worker's closures. -/
import Derived.Test.YtaiapnemlnmeiaaT1
namespace Go.Proofs.Ytaiapnemlnmeiaa
open Go Go.Eng Go.RowKit

/-- numbers of 16 bits -/
def U16 (n : Int) : Prop := 0 ≤ n ∧ n ≤ 65535
def U16L (l : List Int) : Prop := ∀ x ∈ l, U16 x
theorem U16L.nth {l : List Int} (h : U16L l) {i : Nat} (hi : i < l.length) : U16 (Go.Eng.nth l i) := by
  unfold Go.Eng.nth
  rw [List.getD_eq_getElem?_getD, List.getElem?_eq_getElem hi]
  exact h _ (List.getElem_mem hi)

def passF (f : Font) (flag g : Int) : Bool :=
  if clsF f g = 1 then !decide (bitsV .and .u16 flag 2 = 0) else if clsF f g = 2 then !decide (bitsV .and .u16 flag 4 = 0) else if clsF f g = 3 then !decide (bitsV .and .u16 flag 8 = 0) else false

theorem passed_c (f : Font) (l : List Int) (out : List Place) (flag : Int) (at' : Nat) (hat : at' < l.length) (hl : U16L l) (v : Value) (w : World) (hv : Wkr (· < w.heap.size) w v f l out) :
    Calls Try.prog 17 #[v, .int .u16 flag, .int .i64 at'] w fun e w' => e = .returned (.bool (passF f flag (nth l at'))) ∧ Below w.heap.size w w' := by
  obtain ⟨k, o, rfl⟩ := hv.val
  refine calls_exec (cf := cf) cfok (fn := Try.f17) Try.func17 rfl [.bx 0 0, .v (.int .u16 flag), .v (.int .i64 at')] [.rp [] (woD f l out)] (ρ := fun _ => .pointer (some ⟨k, o, none⟩)) (· < w.heap.size) rfl rfl rfl (by simp [svOkL, svOk]) (memRd (fun _ h => h) ⟨hv, trivial⟩) ?_
  refine Or.inl ⟨by kernel_rfl, ?_⟩
  refine And.intro (show (0 : Int) ≤ (at' : Int) ∧ (at' : Int) < (l.length : Int) from ⟨by omega, by omega⟩) ?_
  have hg := hl.nth hat
  refine ⟨.int .u8 (clsF f (nth l at')), fun ρ S w hm => ?_, ?_⟩
  · refine class_c f (nth l at') hg.1 hg.2 _ w ⟨_, rfl, ?_⟩
    exact ⟨rfl, rfl, rfl, hm.rd 1 rfl rfl, hm.rd 2 rfl rfl, hm.rd 3 rfl rfl, hm.rd 4 rfl rfl, hm.rd 5 rfl rfl, hm.rd 6 rfl rfl, hm.rd 7 rfl rfl, trivial⟩
  unfold passF
  refine And.intro (fun h => ?_) (fun h => ?_)
  · have h : clsF f (nth l at') = 1 := of_decide_eq_true h
    rw [if_pos h]
    exact fun ρ S w' hi => ⟨rfl, hi.below⟩
  have h : ¬ clsF f (nth l at') = 1 := of_decide_eq_false h
  rw [if_neg h]
  refine And.intro (fun h => ?_) (fun h => ?_)
  · have h : clsF f (nth l at') = 2 := of_decide_eq_true h
    rw [if_pos h]
    exact fun ρ S w' hi => ⟨rfl, hi.below⟩
  have h : ¬ clsF f (nth l at') = 2 := of_decide_eq_false h
  rw [if_neg h]
  refine And.intro (fun h => ?_) (fun h => ?_)
  · have h : clsF f (nth l at') = 3 := of_decide_eq_true h
    rw [if_pos h]
    exact fun ρ S w' hi => ⟨rfl, hi.below⟩
  have h : ¬ clsF f (nth l at') = 3 := of_decide_eq_false h
  rw [if_neg h]
  exact fun ρ S w' hi => ⟨rfl, hi.below⟩

theorem narrow_c (n : Int) (h1 : -2147483648 ≤ n) (h2 : n ≤ 2147483647) (w : World) : Calls Try.prog 20 #[.int .i64 n] w fun e w' => e = .returned (.int .i32 n) ∧ Below w.heap.size w w' := by
  refine calls_exec (cf := cf) cfok (fn := Try.f20) Try.func20 rfl [.v (.int .i64 n)] [] (ρ := fun _ => undef) (· < w.heap.size) rfl rfl rfl (by simp [svOkL, svOk]) (memNil fun _ h => h) ?_
  refine And.intro (fun h => ?_) (fun h => ?_)
  · have h : (decide (n < -2147483648) || decide (n > 2147483647)) = true := h
    rw [Bool.or_eq_true, decide_eq_true_iff, decide_eq_true_iff] at h
    omega
  refine fun ρ S w' hi => ⟨?_, hi.below⟩
  have : IntKind.i32.wrap n = n := by rw [IntKind.wrap_i32]; omega
  show Ending.returned (.int .i32 (IntKind.i32.wrap n)) = _
  rw [this]

/-! ### IndexFunc -/
/-- the first place where it holds, or -1 -/
def idxF {α : Type} (p : α → Bool) : List α → Nat → Int
  | [], _ => -1
  | x :: r, i => if p x = true then (i : Int) else idxF p r (i + 1)
theorem idxF_drop {α : Type} [Inhabited α] (p : α → Bool) (xs : List α) : ∀ i, i < xs.length → idxF p (xs.drop i) i = if p (nth xs i) = true then (i : Int) else idxF p (xs.drop (i + 1)) (i + 1) := by
  intro i hi
  have : xs.drop i = nth xs i :: xs.drop (i + 1) := by
    rw [List.drop_eq_getElem_cons hi]
    unfold nth
    rw [List.getD_eq_getElem?_getD, List.getElem?_eq_getElem hi]
    rfl
  rw [this]; rfl
theorem idxF_range {α : Type} (p : α → Bool) : ∀ (xs : List α) (i : Nat), idxF p xs i = -1 ∨ ((i : Int) ≤ idxF p xs i ∧ idxF p xs i < i + xs.length)
  | [], i => .inl rfl
  | x :: r, i => by
    unfold idxF
    split
    · right; simp only [List.length_cons]; omega
    · rcases idxF_range p r (i + 1) with h | h
      · exact .inl h
      · right; simp only [List.length_cons]; omega

theorem kern1_c (f : Font) (l : List Int) (out : List Place) (at' j : Nat) (hat : at' < l.length) (hj : j < l.length) (k : Kern) (v1 v2 v3 : Value) (w : World) (h1 : DRep (· < w.heap.size) w (.ptr [.ptr (woD f l out)]) v1) (h2 : DRep (· < w.heap.size) w (.ptr [.v (.int .i64 at')]) v2) (h3 : DRep (· < w.heap.size) w (.ptr [.v (.int .i64 j)]) v3) :
    Calls Try.prog 34 #[.agg #[.int .u16 k.a, .int .u16 k.b, .int .i16 k.x], v1, v2, v3] w fun e w' => e = .returned (.bool (decide (k.a = nth l at') && decide (k.b = nth l j))) ∧ Below w.heap.size w w' := by
  obtain ⟨k1, o1, rfl⟩ : ∃ k o, v1 = .pointer (some ⟨k, o, none⟩) := by cases h1; exact ⟨_, _, rfl⟩
  obtain ⟨k2, o2, rfl⟩ : ∃ k o, v2 = .pointer (some ⟨k, o, none⟩) := by cases h2; exact ⟨_, _, rfl⟩
  obtain ⟨k3, o3, rfl⟩ : ∃ k o, v3 = .pointer (some ⟨k, o, none⟩) := by cases h3; exact ⟨_, _, rfl⟩
  refine calls_exec (cf := cf) cfok (fn := Try.f34) Try.func34 rfl [.agg [.v (.int .u16 k.a), .v (.int .u16 k.b), .v (.int .i16 k.x)], .bx 0 0, .bx 1 0, .bx 2 0] [.rp [] [.ptr (woD f l out)], .rp [] [.v (.int .i64 at')], .rp [] [.v (.int .i64 j)]] (ρ := fun i => match i with | 0 => .pointer (some ⟨k1, o1, none⟩) | 1 => .pointer (some ⟨k2, o2, none⟩) | _ => .pointer (some ⟨k3, o3, none⟩)) (· < w.heap.size) rfl rfl rfl (by simp [svOkL, svOk]) (memRd (fun _ h => h) ⟨h1, h2, h3, trivial⟩) ?_
  refine Or.inl ⟨by kernel_rfl, ?_⟩
  refine And.intro (show (0 : Int) ≤ (at' : Int) ∧ (at' : Int) < (l.length : Int) from ⟨by omega, by omega⟩) ?_
  refine And.intro (fun _ => show (0 : Int) ≤ (j : Int) ∧ (j : Int) < (l.length : Int) from ⟨by omega, by omega⟩) ?_
  exact fun ρ S w' hi => ⟨rfl, hi.below⟩
theorem stand1_c (f : Font) (l : List Int) (out : List Place) (at' : Nat) (hat : at' < l.length) (k : Mark) (v1 v2 : Value) (w : World) (h1 : DRep (· < w.heap.size) w (.ptr [.ptr (woD f l out)]) v1) (h2 : DRep (· < w.heap.size) w (.ptr [.v (.int .i64 at')]) v2) :
    Calls Try.prog 37 #[.agg #[.int .u16 k.g, .int .u16 k.c, .int .i16 k.x, .int .i16 k.y], v1, v2] w fun e w' => e = .returned (.bool (decide (k.g = nth l at'))) ∧ Below w.heap.size w w' := by
  obtain ⟨k1, o1, rfl⟩ : ∃ k o, v1 = .pointer (some ⟨k, o, none⟩) := by cases h1; exact ⟨_, _, rfl⟩
  obtain ⟨k2, o2, rfl⟩ : ∃ k o, v2 = .pointer (some ⟨k, o, none⟩) := by cases h2; exact ⟨_, _, rfl⟩
  refine calls_exec (cf := cf) cfok (fn := Try.f37) Try.func37 rfl [.agg [.v (.int .u16 k.g), .v (.int .u16 k.c), .v (.int .i16 k.x), .v (.int .i16 k.y)], .bx 0 0, .bx 1 0] [.rp [] [.ptr (woD f l out)], .rp [] [.v (.int .i64 at')]] (ρ := fun i => match i with | 0 => .pointer (some ⟨k1, o1, none⟩) | _ => .pointer (some ⟨k2, o2, none⟩)) (· < w.heap.size) rfl rfl rfl (by simp [svOkL, svOk]) (memRd (fun _ h => h) ⟨h1, h2, trivial⟩) ?_
  refine Or.inl ⟨by kernel_rfl, ?_⟩
  refine And.intro (show (0 : Int) ≤ (at' : Int) ∧ (at' : Int) < (l.length : Int) from ⟨by omega, by omega⟩) ?_
  exact fun ρ S w' hi => ⟨rfl, hi.below⟩
theorem stand2_c (f : Font) (l : List Int) (out : List Place) (at' : Nat) (hat : at' < l.length) (k : Base) (va v1 v2 : Value) (w : World) (ha : Rd w va 3 anE k.an) (h1 : DRep (· < w.heap.size) w (.ptr [.ptr (woD f l out)]) v1) (h2 : DRep (· < w.heap.size) w (.ptr [.v (.int .i64 at')]) v2) :
    Calls Try.prog 39 #[.agg #[.int .u16 k.g, va], v1, v2] w fun e w' => e = .returned (.bool (decide (k.g = nth l at'))) ∧ Below w.heap.size w w' := by
  obtain ⟨k1, o1, rfl⟩ : ∃ k o, v1 = .pointer (some ⟨k, o, none⟩) := by cases h1; exact ⟨_, _, rfl⟩
  obtain ⟨k2, o2, rfl⟩ : ∃ k o, v2 = .pointer (some ⟨k, o, none⟩) := by cases h2; exact ⟨_, _, rfl⟩
  refine calls_exec (cf := cf) cfok (fn := Try.f39) Try.func39 rfl [.agg [.v (.int .u16 k.g), .sl 2], .bx 0 0, .bx 1 0] [.rp [] [.ptr (woD f l out)], .rp [] [.v (.int .i64 at')], .rd Anchor inferInstance 3 anE k.an] (ρ := fun i => match i with | 0 => .pointer (some ⟨k1, o1, none⟩) | 1 => .pointer (some ⟨k2, o2, none⟩) | _ => va) (· < w.heap.size) rfl rfl rfl (by simp [svOkL, svOk]) (memRd (fun _ h => h) ⟨h1, h2, ha, trivial⟩) ?_
  refine Or.inl ⟨by kernel_rfl, ?_⟩
  refine And.intro (show (0 : Int) ≤ (at' : Int) ∧ (at' : Int) < (l.length : Int) from ⟨by omega, by omega⟩) ?_
  exact fun ρ S w' hi => ⟨rfl, hi.below⟩
end Go.Proofs.Ytaiapnemlnmeiaa
