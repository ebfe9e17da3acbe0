/- calamusmake.Words, bin.Open as one's own, the reps of what is read; works. -/
import Derived.Test.YtalploampmdemaaM16
set_option maxRecDepth 100000
set_option linter.unusedVariables false
namespace Go.Proofs.Ytalploampmdemaa
open Go Go.Eng Go.RowKit

def hiB (n : Int) : Int := IntKind.u8.wrap (shrV IntKind.i64 n 8)
def loB (n : Int) : Int := IntKind.u8.wrap n
def wsB (xs : List Int) : List Int := xs.flatMap fun n => [hiB n, loB n]
theorem wsB_len (xs : List Int) : (wsB xs).length = xs.length * 2 := flatMap_len _ 2 xs (fun _ _ => rfl)
theorem wsB_take {xs : List Int} {i : Nat} (h : i < xs.length) : wsB (xs.take i) ++ [hiB (nth xs i), loB (nth xs i)] = wsB (xs.take (i + 1)) := by
  unfold wsB
  rw [List.take_succ_eq_append_getElem h, List.flatMap_append, nthE h]; rfl
abbrev ow5 (xs : List Int) : Chunk := .own 5 Int inferInstance 1 bE xs
theorem ow5e {a b : List Int} (h : a = b) : ow5 a = ow5 b := by rw [h]
theorem words_mk (xs : List Int) (hl : xs.length ≤ 1000000) (v : Value) (w : World) (hv : Rd w v 1 zE xs) :
    Calls Try.prog 15 #[v] w fun e w' => ∃ u, e = .returned u ∧ Below w.heap.size w w' ∧ Fresh w w' u 5 1 bE (wsB xs) := by
  refine calls_exec (cf := cf) cfok (fn := Try.f15) Try.func15 rfl [.sl 0] [.rd Int inferInstance 1 zE xs] (ρ := fun _ => v) (· < w.heap.size) rfl rfl rfl (by simp [svOkL, svOk]) (memRd (fun _ h => h) ⟨hv, trivial⟩) ?_
  refine ⟨{ i : Nat // i ≤ xs.length }, fun i => ⟨26, [⟨0, [], .sl 0⟩, ⟨3, [], .sl 1⟩, ⟨4, [], .v (.int .i64 (i.1 : Nat))⟩], [.rd Int inferInstance 1 zE xs, ow5 (wsB (xs.take i.1))], [], dropL nats 2⟩, fun i => xs.length - i.1, ⟨[0, 1000], ⟨0, by omega⟩, ?_⟩, fun i => ?_⟩
  · exact And.intro (And.intro rfl (And.intro rfl (And.intro rfl trivial))) (And.intro rfl (And.intro rfl trivial))
  obtain ⟨i, hi⟩ := i
  refine And.intro (fun hlt => ?_) (fun hge => ?_)
  rotate_left
  · have hge : i = xs.length := by
      have : ¬ ((i : Nat) : Int) < ((xs.length : Nat) : Int) := of_decide_eq_false hge
      omega
    subst hge
    rw [List.take_length] at *
    exact fun ρ S w' hi => ⟨_, rfl, hi.below, hi.fresh 1 ⟨fun n => [.int .u8 n], fun _ => rfl⟩ rfl rfl⟩
  have hlt : i < xs.length := by
    have : ((i : Nat) : Int) < ((xs.length : Nat) : Int) := of_decide_eq_true hlt
    omega
  have bi : (0 : Int) ≤ (i : Int) ∧ (i : Int) < (xs.length : Int) := ⟨by omega, by omega⟩
  refine Or.inr (Or.inr (Or.inl ⟨[0, 1, 2, 3, 4, 5, 6, 7, 8, 9, 10, 11, 12], [12], [13, 14], by kernel_rfl, ?_⟩))
  refine And.intro bi ?_
  refine And.intro (show (0 : Int) ≤ 8 by omega) ?_
  refine And.intro bi ?_
  refine ⟨[hiB (nth xs i), loB (nth xs i)], ⟨rfl, rfl, fun y hy => rfl⟩, ?_, ?_⟩
  · show ((wsB (xs.take i)).length + 2) * 1 ≤ _
    rw [wsB_len, List.length_take]; omega
  exact ⟨[0, 3], ⟨i + 1, hlt⟩, And.intro (And.intro rfl (And.intro rfl (And.intro (svI (i64_succ i (by omega))) trivial))) (And.intro rfl (And.intro (ow5e (wsB_take hlt)) trivial)), by show xs.length - (i + 1) < xs.length - i; omega⟩
/-- a reader of one's own -/
theorem open_s (b : List Int) (hb : b.length ≤ 1000000) : LCall Try.prog ⟨0, [], [.rd Int inferInstance 1 bE b], [], []⟩ 7 [.sl 0]
    (fun st' s => st'.ch = [.rd Int inferInstance 1 bE b, .bx 82 [.v (.bool false)], .rd Int inferInstance 1 bE b, .bx 85 [.bx 1 0, .sl 2]] ∧ s = .bx 3 0) := by
  refine lcall_exec (cf := cf) cfok (fn := Try.f7) Try.func7 rfl _ _ [.rd Int inferInstance 1 bE b, .bx 82 [.v (.bool false)], .rd Int inferInstance 1 bE b, .bx 85 [.bx 1 0, .sl 2]] (.bx 3 0) rfl rfl (by simp [svOkL, svOk]) rfl (by exact ⟨⟨Nat.le_refl _, rfl⟩, trivial⟩) rfl rfl ?_
  refine Or.inr (lcall_then (lcall_fresh b (fun ρ S w hm => clone_c b _ w hb (hm.rd 0 rfl rfl)) ⟨[(2, .rd Int inferInstance 1 bE b)], rfl, rfl, fun _ => ?_⟩))
  exact ⟨[0, 1, 2, 3], rfl, rfl, rfl, (And.intro rfl (And.intro (And.intro rfl rfl) (And.intro rfl (And.intro (And.intro rfl rfl) trivial)))), rfl⟩
/-! ### what is read, as any lookups -/
theorem DRep.mapS {S : Nat → Prop} {w : World} {α β : Type} [ia : Inhabited α] [ib : Inhabited β] (f : α → β) {sz : Nat} {ea : α → List DV} {eb : β → List DV} {xs : List α} {v : Value}
    (h : ∀ x ∈ xs, (ea x).length = (eb (f x)).length ∧ ∀ (j : Nat) (d d' : DV), (ea x)[j]? = some d → (eb (f x))[j]? = some d' → ∀ u, DRep S w d u → DRep S w d' u) (hr : DRep S w (.sl α ia sz ea xs) v) : DRep S w (.sl β ib sz eb (xs.map f)) v := by
  cases hr with
  | sl ad c b o cell hc hne hcell hrep =>
    have key : ∀ (i j : Nat) (d' : DV), i < (xs.map f).length → (eb (nth (xs.map f) i))[j]? = some d' → ∃ d, i < xs.length ∧ (ea (nth xs i))[j]? = some d ∧ ∀ u, DRep S w d u → DRep S w d' u := by
      intro i j d' hi hd
      have hi : i < xs.length := by simpa using hi
      rw [nth_map f hi] at hd
      obtain ⟨h1, h2⟩ := h _ (nth_mem hi)
      have hj : j < (ea (nth xs i)).length := by
        rw [h1]
        rcases Nat.lt_or_ge j (eb (f (nth xs i))).length with h | h
        · exact h
        · rw [List.getElem?_eq_none h] at hd; cases hd
      exact ⟨_, hi, List.getElem?_eq_getElem hj, fun u hu => h2 j _ _ (List.getElem?_eq_getElem hj) hd u hu⟩
    have := DRep.sl (S := S) (w := w) (α := β) (inh := ib) (sz := sz) (enc := eb) (xs := xs.map f) ad c b o cell (by rw [List.length_map]; exact hc) (fun hx => hne (fun e => hx (by rw [e]; rfl))) (fun i j d hi hd => by
      obtain ⟨d0, hi0, hd0, _⟩ := key i j d hi hd
      exact hcell i j d0 hi0 hd0) (fun i j d hi hd => by
      obtain ⟨d0, hi0, hd0, hu⟩ := key i j d hi hd
      exact hu _ (hrep i j d0 hi0 hd0))
    rwa [List.length_map] at this
theorem rep_nil {S : Nat → Prop} {w : World} {α : Type} {inh : Inhabited α} {sz : Nat} {enc : α → List DV} {v : Value} (h : DRep S w nilD v) : DRep S w (.sl α inh sz enc []) v := by
  cases h with
  | v x h => exact DRep.nil
theorem rep_subs {S : Nat → Prop} {w : World} {ps : List SubX} {v : Value} (h : DRep S w (.sl SubX inferInstance 7 suE ps) v) : DRep S w (.sl SubU inferInstance 7 suU (ps.map toS)) v := by
  refine DRep.mapS toS (fun x _ => ?_) h
  cases x with
  | one ks =>
    refine ⟨rfl, fun j d d' h1 h2 u hu => ?_⟩
    match j, h1, h2 with
    | 0, h1, h2 => cases h1; cases h2; exact hu
    | 1, h1, h2 => cases h1; cases h2; exact rep_nil hu
    | 2, h1, h2 => cases h1; cases h2; exact rep_nil hu
    | 3, h1, h2 => cases h1; cases h2; exact rep_nil hu
    | 4, h1, h2 => cases h1; cases h2; exact rep_nil hu
    | 5, h1, h2 => cases h1; cases h2; exact rep_nil hu
    | 6, h1, h2 => cases h1; cases h2; exact rep_nil hu
    | j + 7, h1, h2 => cases h1
  | many ks =>
    refine ⟨rfl, fun j d d' h1 h2 u hu => ?_⟩
    match j, h1, h2 with
    | 0, h1, h2 => cases h1; cases h2; exact rep_nil hu
    | 1, h1, h2 => cases h1; cases h2; exact hu
    | 2, h1, h2 => cases h1; cases h2; exact rep_nil hu
    | 3, h1, h2 => cases h1; cases h2; exact rep_nil hu
    | 4, h1, h2 => cases h1; cases h2; exact rep_nil hu
    | 5, h1, h2 => cases h1; cases h2; exact rep_nil hu
    | 6, h1, h2 => cases h1; cases h2; exact rep_nil hu
    | j + 7, h1, h2 => cases h1
  | lig ks =>
    refine ⟨rfl, fun j d d' h1 h2 u hu => ?_⟩
    match j, h1, h2 with
    | 0, h1, h2 => cases h1; cases h2; exact rep_nil hu
    | 1, h1, h2 => cases h1; cases h2; exact rep_nil hu
    | 2, h1, h2 => cases h1; cases h2; exact hu
    | 3, h1, h2 => cases h1; cases h2; exact rep_nil hu
    | 4, h1, h2 => cases h1; cases h2; exact rep_nil hu
    | 5, h1, h2 => cases h1; cases h2; exact rep_nil hu
    | 6, h1, h2 => cases h1; cases h2; exact rep_nil hu
    | j + 7, h1, h2 => cases h1
  | ch c =>
    refine ⟨rfl, fun j d d' h1 h2 u hu => ?_⟩
    match j, h1, h2 with
    | 0, h1, h2 => cases h1; cases h2; exact rep_nil hu
    | 1, h1, h2 => cases h1; cases h2; exact rep_nil hu
    | 2, h1, h2 => cases h1; cases h2; exact rep_nil hu
    | 3, h1, h2 => cases h1; cases h2; exact hu
    | 4, h1, h2 => cases h1; cases h2; exact hu
    | 5, h1, h2 => cases h1; cases h2; exact hu
    | 6, h1, h2 => cases h1; cases h2; exact hu
    | j + 7, h1, h2 => cases h1
theorem rep_looks {S : Nat → Prop} {w : World} {ls : List Lk} {v : Value} (h : DRep S w (.sl Lk inferInstance 4 lkE ls) v) : DRep S w (.sl LkU inferInstance 4 luE (ls.map toL)) v := by
  refine DRep.mapS toL (fun x _ => ?_) h
  refine ⟨rfl, fun j d d' h1 h2 u hu => ?_⟩
  match j, h1, h2 with
  | 0, h1, h2 => cases h1; cases h2; exact hu
  | 1, h1, h2 => cases h1; cases h2; exact hu
  | 2, h1, h2 => cases h1; cases h2; exact rep_subs hu
  | 3, h1, h2 => cases h1; cases h2; exact rep_nil hu
  | j + 4, h1, h2 => cases h1
/-! ### works -/
def wNums : List Int := [1, 0, 10, 10, 12, 0, 1, 4, 4, 0, 1, 8, 1, 8, 1, 14, 1, 1, 5, 1, 4, 9, 2, 6]
def wB0 : List Int := [0, 1, 0, 0, 0, 10, 0, 10, 0, 12, 0, 0, 0, 1, 0, 4, 0, 4, 0, 0, 0, 1, 0, 8, 0, 1, 0, 8, 0, 1, 0, 14, 0, 1, 0, 1, 0, 5, 0, 1, 0, 4, 0, 9, 0, 2, 0, 6]
theorem wk0 : wsB wNums = wB0 := by decide +kernel
abbrev wL : List Lk := [⟨4, 0, [.lig [⟨[5, 6], 9⟩]]⟩]
theorem wk1 : parseX wB0 10 = some (wL, []) := by kernel_rfl
end Go.Proofs.Ytalploampmdemaa
