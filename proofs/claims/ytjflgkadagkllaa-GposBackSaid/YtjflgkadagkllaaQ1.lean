/- Tables made of words, and how they are read (plain Lean). -/
import Derived.Test.YtjflgkadagkllaaN13
set_option maxRecDepth 100000
set_option linter.unusedVariables false
namespace Go.Proofs.Ytjflgkadagkllaa
open Go Go.Eng Go.RowKit

theorem hiB_val {n : Int} (h : 0 ≤ n ∧ n ≤ 65535) : hiB n = n / 256 := by
  unfold hiB
  have : shrV IntKind.i64 n 8 = n / 256 := by
    obtain ⟨k, rfl⟩ : ∃ k : Nat, n = (k : Int) := ⟨n.toNat, by omega⟩
    unfold shrV
    have e : min 8 IntKind.i64.bits = 8 := by decide
    simp [e]
    try rw [Int.fdiv_eq_ediv_of_nonneg _ (by decide)]
    try rfl
  rw [this, IntKind.wrap_u8]
  omega
theorem loB_val {n : Int} (h : 0 ≤ n ∧ n ≤ 65535) : loB n = n % 256 := by
  unfold loB
  rw [IntKind.wrap_u8]
theorem wsB_app (a b : List Int) : wsB (a ++ b) = wsB a ++ wsB b := by unfold wsB; rw [List.flatMap_append]
theorem wsB_cons (x : Int) (l : List Int) : wsB (x :: l) = hiB x :: loB x :: wsB l := rfl
theorem wsB_byt (W : List Int) : Byt (wsB W) := by
  refine Byt.of fun x hx => ?_
  unfold wsB at hx
  obtain ⟨n, _, hn⟩ := List.mem_flatMap.1 hx
  have h : x = hiB n ∨ x = loB n := by simpa using hn
  rcases h with rfl | rfl
  · unfold hiB; rw [IntKind.wrap_u8]; omega
  · unfold loB; rw [IntKind.wrap_u8]; omega
theorem wsB_nth : ∀ (W : List Int) (k : Nat), k < W.length → nth (wsB W) (2 * k) = hiB (nth W k) ∧ nth (wsB W) (2 * k + 1) = loB (nth W k)
  | [], k, h => absurd h (Nat.not_lt_zero _)
  | x :: l, 0, _ => ⟨rfl, rfl⟩
  | x :: l, k + 1, h => by
    have h1 := wsB_nth l k (by simpa using h)
    rw [wsB_cons]
    exact h1
/-- the word k, where it is one -/
theorem wA_at {W : List Int} {k : Nat} (h : k < W.length) (hr : 0 ≤ nth W k ∧ nth W k ≤ 65535) : wA (wsB W) (2 * (k : Int)) = nth W k := by
  unfold wA w2
  have e : (2 * (k : Int)).toNat = 2 * k := by omega
  rw [e, nth_drop, nth_drop]
  obtain ⟨h1, h2⟩ := wsB_nth W k h
  rw [show 2 * k + 0 = 2 * k from rfl, show 2 * k + (0 + 1) = 2 * k + 1 from rfl, h1, h2, hiB_val hr, loB_val hr]
  omega
theorem out_at {W : List Int} {k n : Nat} (h : k + n ≤ W.length) : outR (wsB W) (2 * (k : Int)) (2 * (n : Int)) = false := by
  rw [outR_iff, wsB_len]
  omega
theorem w2_dropI {b : List Int} {a : Int} {p : Nat} (h : 0 ≤ a) : w2 (b.drop a.toNat) p = wA b (a + (p : Int)) := by
  unfold wA w2
  rw [nth_drop, nth_drop, nth_drop, nth_drop]
  have e : (a + (p : Int)).toNat = a.toNat + p := by omega
  rw [e]; rfl
/-! ### parts of a table -/
def At (W : List Int) (o : Nat) (P : List Int) : Prop := ∃ t, W.drop o = P ++ t
theorem At.app {W : List Int} {o : Nat} {P Q : List Int} (h : At W o (P ++ Q)) : At W o P ∧ At W (o + P.length) Q := by
  obtain ⟨t, ht⟩ := h
  refine ⟨⟨Q ++ t, by rw [ht, List.append_assoc]⟩, ⟨t, ?_⟩⟩
  rw [← List.drop_drop, ht, List.append_assoc, List.drop_left]
theorem At.l {W : List Int} {o : Nat} {P Q : List Int} (h : At W o (P ++ Q)) : At W o P := h.app.1
theorem At.r {W : List Int} {o : Nat} {P Q : List Int} {k : Nat} (h : At W o (P ++ Q)) (hk : k = o + P.length) : At W k Q := hk ▸ h.app.2
theorem At.self (W : List Int) : At W 0 W := ⟨[], by simp⟩
theorem At.len {W : List Int} {o : Nat} {P : List Int} (h : At W o P) (hP : 0 < P.length) : o + P.length ≤ W.length := by
  obtain ⟨t, ht⟩ := h
  have := congrArg List.length ht
  rw [List.length_drop, List.length_append] at this
  omega
theorem At.nth {W : List Int} {o : Nat} {P : List Int} (h : At W o P) {i : Nat} (hi : i < P.length) : Go.Eng.nth W (o + i) = Go.Eng.nth P i := by
  obtain ⟨t, ht⟩ := h
  rw [← nth_drop, ht]
  unfold Go.Eng.nth
  rw [List.getD_eq_getElem?_getD, List.getD_eq_getElem?_getD, List.getElem?_append_left hi]
/-- numbers of two bytes -/
def U16 (P : List Int) : Prop := ∀ x ∈ P, 0 ≤ x ∧ x ≤ 65535
theorem U16.nth {P : List Int} (h : U16 P) {i : Nat} (hi : i < P.length) : 0 ≤ Go.Eng.nth P i ∧ Go.Eng.nth P i ≤ 65535 := h _ (nth_mem hi)
theorem U16.app {P Q : List Int} : U16 (P ++ Q) ↔ U16 P ∧ U16 Q := by
  constructor
  · intro h
    exact ⟨fun x hx => h x (List.mem_append.2 (.inl hx)), fun x hx => h x (List.mem_append.2 (.inr hx))⟩
  · rintro ⟨h1, h2⟩ x hx
    rcases List.mem_append.1 hx with h | h
    · exact h1 x h
    · exact h2 x h
theorem U16.cons {x : Int} {P : List Int} : U16 (x :: P) ↔ (0 ≤ x ∧ x ≤ 65535) ∧ U16 P := by
  unfold U16
  simp
theorem U16.nil : U16 [] := fun x hx => by cases hx
theorem At.read {W : List Int} {o : Nat} {P : List Int} (h : At W o P) {i : Nat} (hi : i < P.length) (hr : 0 ≤ Go.Eng.nth P i ∧ Go.Eng.nth P i ≤ 65535) {a : Int} (ha : a = 2 * ((o + i : Nat) : Int)) :
    outR (wsB W) a 2 = false ∧ wA (wsB W) a = Go.Eng.nth P i := by
  subst ha
  have hl := h.len (by omega)
  refine ⟨?_, ?_⟩
  · have := out_at (W := W) (k := o + i) (n := 1) (by omega)
    exact this
  · rw [wA_at (by omega) (by rw [h.nth hi]; exact hr), h.nth hi]
theorem At.flat {W : List Int} {o : Nat} : ∀ {ps : List (List Int)} {i : Nat}, At W o ps.flatten → i < ps.length → At W (o + (ps.take i).flatten.length) (Go.Eng.nth ps i)
  | [], i, _, hi => absurd hi (Nat.not_lt_zero _)
  | p :: r, 0, h, _ => (show At W o (p ++ r.flatten) from h).l
  | p :: r, i + 1, h, hi => by
    have h1 := At.flat (ps := r) (i := i) ((show At W o (p ++ r.flatten) from h).r rfl) (by simpa using hi)
    have e : o + ((p :: r).take (i + 1)).flatten.length = o + p.length + (r.take i).flatten.length := by
      rw [List.take_succ_cons, List.flatten_cons, List.length_append]; omega
    rw [e]
    exact h1
/-! ### places of parts -/
def offs : Int → List (List Int) → List Int
  | _, [] => []
  | a, p :: r => a :: offs (a + 2 * (p.length : Int)) r
theorem offs_len : ∀ (a : Int) (ps : List (List Int)), (offs a ps).length = ps.length
  | _, [] => rfl
  | a, p :: r => by rw [offs, List.length_cons, List.length_cons, offs_len]
theorem offs_nth : ∀ (a : Int) (ps : List (List Int)) (i : Nat), i < ps.length → nth (offs a ps) i = a + 2 * ((ps.take i).flatten.length : Int)
  | _, [], i, h => absurd h (Nat.not_lt_zero _)
  | a, p :: r, 0, _ => by simp [offs, nth]
  | a, p :: r, i + 1, h => by
    have h1 := offs_nth (a + 2 * (p.length : Int)) r i (by simpa using h)
    have e : nth (offs a (p :: r)) (i + 1) = nth (offs (a + 2 * (p.length : Int)) r) i := rfl
    rw [e, h1, List.take_succ_cons, List.flatten_cons, List.length_append]
    push_cast
    omega
theorem take_flat_le (ps : List (List Int)) (i : Nat) : (ps.take i).flatten.length ≤ ps.flatten.length := by
  have : ps.flatten = (ps.take i).flatten ++ (ps.drop i).flatten := by rw [← List.flatten_append, List.take_append_drop]
  rw [this, List.length_append]
  omega
theorem nth_flat_le : ∀ (ps : List (List Int)) (i : Nat), i < ps.length → (ps.take i).flatten.length + (nth ps i).length ≤ ps.flatten.length
  | [], i, h => absurd h (Nat.not_lt_zero _)
  | p :: r, 0, h => by
    rw [List.flatten_cons, List.length_append]
    show 0 + p.length ≤ _
    omega
  | p :: r, i + 1, h => by
    have h1 := nth_flat_le r i (by simpa using h)
    rw [List.take_succ_cons, List.flatten_cons, List.flatten_cons, List.length_append, List.length_append]
    show p.length + _ + (nth r i).length ≤ _
    omega
theorem offs_u16 {a : Int} {ps : List (List Int)} (h0 : 0 ≤ a) (h : a + 2 * (ps.flatten.length : Int) ≤ 65535) : U16 (offs a ps) := by
  intro x hx
  obtain ⟨i, hi, rfl⟩ := List.getElem_of_mem hx
  have hi' : i < ps.length := by rwa [offs_len] at hi
  have h1 := offs_nth a ps i hi'
  rw [nthE hi] at h1
  have h2 := take_flat_le ps i
  rw [h1]
  omega
theorem offs_app : ∀ (a : Int) (ps : List (List Int)) (q : List Int), offs a (ps ++ [q]) = offs a ps ++ [a + 2 * (ps.flatten.length : Int)]
  | a, [], q => by simp [offs]
  | a, p :: r, q => by
    rw [List.cons_append, offs, offs_app, offs, List.cons_append, List.flatten_cons, List.length_append]
    push_cast
    rw [show a + 2 * (p.length : Int) + 2 * (r.flatten.length : Int) = a + 2 * ((p.length : Int) + (r.flatten.length : Int)) from by omega]
/-! ### coverages -/
def covW (l : List Int) : List Int := 1 :: (l.length : Int) :: l
theorem covW_len (l : List Int) : (covW l).length = l.length + 2 := rfl
theorem nth_extO {l l' : List Int} (h : l.length = l'.length) (hn : ∀ i, i < l.length → nth l i = nth l' i) : l = l' := by
  refine List.ext_getElem h fun i h1 h2 => ?_
  rw [← nthE h1, ← nthE h2]
  exact hn i h1
theorem cov_read {W : List Int} {o : Nat} {l : List Int} {g a : Int} (h : At W o (covW l)) (hl : 0 < l.length) (hl2 : l.length ≤ 65535) (hu : U16 l) (hg : ∀ x ∈ l, x < g) (hr : ∀ i, 0 < i → i < l.length → nth l (i - 1) < nth l i) (ha : a = 2 * (o : Int)) : covX (wsB W) a g = some l := by
  subst ha
  have hlen := h.len (by rw [covW_len]; omega)
  rw [covW_len] at hlen
  have hB := wsB_byt W
  have h0 := h.read (i := 0) (by rw [covW_len]; omega) ⟨by show (0 : Int) ≤ 1; omega, by show (1 : Int) ≤ 65535; omega⟩ rfl
  have h1 := h.read (i := 1) (by rw [covW_len]; omega) ⟨by show (0 : Int) ≤ (l.length : Int); omega, by show (l.length : Int) ≤ 65535; omega⟩ rfl
  have e0 : wd ((wsB W).drop (2 * (o : Int)).toNat) 0 = 1 := by
    rw [wd_w2 (hB.drop _)]
    exact h0.2
  have e1 : wd ((wsB W).drop (2 * (o : Int)).toNat) 2 = (l.length : Int) := by
    rw [wd_w2 (hB.drop _), w2_dropI (by omega)]
    have := h1.2
    rw [show 2 * (o : Int) + ((2 : Nat) : Int) = 2 * ((o + 1 : Nat) : Int) from by omega]
    exact this
  have erow : rowO ((wsB W).drop (2 * (o : Int)).toNat) 4 l.length = l := by
    refine nth_extO (rowO_len _ _ _) fun i hi => ?_
    rw [rowO_len] at hi
    rw [rowO_nth _ _ _ _ hi, wo_w2 (hB.drop _), w2_dropI (by omega)]
    have hn : nth (covW l) (i + 2) = nth l i := rfl
    have := (h.read (i := i + 2) (by rw [covW_len]; omega) (by rw [hn]; exact hu.nth hi) rfl).2
    rw [show 2 * (o : Int) + ((4 + 2 * i : Nat) : Int) = 2 * ((o + (i + 2) : Nat) : Int) from by omega, this, hn]
  unfold covX
  rw [show outR (wsB W) (2 * (o : Int)) 4 = false from out_at (W := W) (k := o) (n := 2) (by omega), if_neg (by decide), if_pos e0, e1]
  rw [show outR (wsB W) (2 * (o : Int) + 4) (2 * (l.length : Int)) = false from by rw [outR_iff, wsB_len]; omega, if_neg (by decide), Int.toNat_natCast]
  unfold cov1
  rw [erow, if_pos]
  · unfold finC
    rw [if_pos ⟨hl, hl2⟩]
  · intro i hi
    unfold ok1
    have hx := hg _ (nth_mem hi)
    rw [decide_eq_false (show ¬ nth l i ≥ g by omega), Bool.false_or, Bool.not_eq_true', Bool.and_eq_false_iff]
    by_cases hi0 : 0 < i
    · right
      have := hr i hi0 hi
      exact decide_eq_false (by omega)
    · left
      exact decide_eq_false (by omega)
/-! ### parts behind words -/
def withW (ws : List Int) (ps : List (List Int)) (cov : List Int) : List Int :=
  [nth ws 0, 2 * (ws.length : Int) + 2 + 2 * (ps.length : Int)] ++ ws.drop 1 ++ offs (2 * (ws.length : Int) + 2 + 2 * (ps.length : Int) + 2 * (cov.length : Int)) ps ++ cov ++ ps.flatten
end Go.Proofs.Ytjflgkadagkllaa
