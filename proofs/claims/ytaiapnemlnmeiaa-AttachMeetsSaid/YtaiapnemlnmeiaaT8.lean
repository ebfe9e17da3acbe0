/- what attach.Apply makes of a row, in plain Lean; by, guard. -/
import Derived.Test.YtaiapnemlnmeiaaT7
namespace Go.Proofs.Ytaiapnemlnmeiaa
open Go Go.Eng Go.RowKit

def tryT (f : Font) (l : List Int) (x : Lookup) (s : Pos) (at' : Nat) (out : List Place) : Bool × List Place :=
  if x.ty = 2 then kernT f l x s at' out else if x.ty = 4 then baseT f l x s at' out else if x.ty = 6 then markT f l x s at' out else (false, out)
def innerF (f : Font) (l : List Int) (x : Lookup) (at' : Nat) : List Pos → List Place → List Place
  | [], o => o
  | s :: r, o => if (tryT f l x s at' o).1 = true then (tryT f l x s at' o).2 else innerF f l x at' r o
def rowF (f : Font) (l : List Int) (x : Lookup) : Nat → List Place → List Place
  | 0, o => o
  | k + 1, o => if passF f x.flag (nth l k) = true then rowF f l x k o else innerF f l x k x.poss (rowF f l x k o)
def startP (f : Font) (g : Int) : Place := ⟨IntKind.i32.wrap (advF f g), -1, 0, 0⟩
def lookF (f : Font) (l : List Int) : Nat → List Place
  | 0 => l.map (startP f)
  | n + 1 => if onF f n = true then rowF f l (nth f.poss n) l.length (lookF f l n) else lookF f l n
def applyF (f : Font) (l : List Int) : List Place := lookF f l f.poss.length

theorem innerF_drop (f : Font) (l : List Int) (x : Lookup) (at' : Nat) (ps : List Pos) (o : List Place) (i : Nat) (hi : i < ps.length) :
    innerF f l x at' (ps.drop i) o = if (tryT f l x (nth ps i) at' o).1 = true then (tryT f l x (nth ps i) at' o).2 else innerF f l x at' (ps.drop (i + 1)) o := by
  rw [drop_nth ps i hi]; rfl

/-- a step at a place: all else stays -/
structure StepOk (at' : Nat) (o o' : List Place) : Prop where
  len : o'.length = o.length
  other : ∀ i, i ≠ at' → nth o' i = nth o i
  adv : at' < o.length → (nth o at').adv - 40000 ≤ (nth o' at').adv ∧ (nth o' at').adv ≤ (nth o at').adv + 40000
theorem StepOk.refl (at' : Nat) (o : List Place) : StepOk at' o o := ⟨rfl, fun _ _ => rfl, fun _ => by omega⟩
theorem nth_set_ne {α : Type} [Inhabited α] {xs : List α} {i j : Nat} (y : α) (h : j ≠ i) : nth (xs.set i y) j = nth xs j := by
  unfold nth
  rw [List.getD_eq_getElem?_getD, List.getElem?_set_ne (Ne.symm h), ← List.getD_eq_getElem?_getD]
structure KernsOk (s : Pos) : Prop where
  x : ∀ k ∈ s.kerns, -40000 ≤ k.x ∧ k.x ≤ 40000
theorem kernD_mem {f : Font} {flag : Int} {l : List Int} {ks : List Kern} {at' : Nat} {d : Int} (h : kernD f flag l ks at' = some d) : ∃ k ∈ ks, d = k.x := by
  unfold kernD at h
  split at h
  · cases h
  · split at h
    · cases h
    · cases h
      have := idxF_range (kernP l at' (kernJ f flag l at')) ks 0
      refine ⟨_, nth_mem ?_, rfl⟩
      omega
theorem kernT_ok (f : Font) (l : List Int) (x : Lookup) (s : Pos) (at' : Nat) (o : List Place) (hs : KernsOk s) : StepOk at' o (kernT f l x s at' o).2 := by
  unfold kernT
  cases h : kernD f x.flag l s.kerns at' with
  | none => exact StepOk.refl _ _
  | some d =>
    obtain ⟨k, hk, rfl⟩ := kernD_mem h
    have := hs.x k hk
    refine ⟨addP_len _ _ _, fun i hi => nth_set_ne _ hi, fun hl => ?_⟩
    show _ ≤ (nth (addP o at' k.x) at').adv ∧ _
    unfold addP
    rw [nth_set _ hl]
    show _ ≤ (nth o at').adv + k.x ∧ (nth o at').adv + k.x ≤ _
    omega
theorem standT_ok (l : List Int) (s : Pos) (at' j : Nat) (o : List Place) : StepOk at' o (standT l s at' j o).2 := by
  unfold standT
  cases h : standD l s at' j with
  | none => exact StepOk.refl _ _
  | some d =>
    refine ⟨putP_len _ _ _ _, fun i hi => nth_set_ne _ hi, fun hl => ?_⟩
    show _ ≤ (nth (putP o at' j d) at').adv ∧ _
    unfold putP
    rw [nth_set _ hl]
    show _ ≤ (nth o at').adv ∧ (nth o at').adv ≤ _
    omega
theorem baseT_ok (f : Font) (l : List Int) (x : Lookup) (s : Pos) (at' : Nat) (o : List Place) : StepOk at' o (baseT f l x s at' o).2 := by
  unfold baseT
  split
  · exact StepOk.refl _ _
  · exact standT_ok _ _ _ _ _
theorem markT_ok (f : Font) (l : List Int) (x : Lookup) (s : Pos) (at' : Nat) (o : List Place) : StepOk at' o (markT f l x s at' o).2 := by
  unfold markT
  split
  · exact StepOk.refl _ _
  · split
    · exact standT_ok _ _ _ _ _
    · exact StepOk.refl _ _
theorem tryT_ok (f : Font) (l : List Int) (x : Lookup) (s : Pos) (at' : Nat) (o : List Place) (hs : KernsOk s) : StepOk at' o (tryT f l x s at' o).2 := by
  unfold tryT
  split
  · exact kernT_ok _ _ _ _ _ _ hs
  · split
    · exact baseT_ok _ _ _ _ _ _
    · split
      · exact markT_ok _ _ _ _ _ _
      · exact StepOk.refl _ _
theorem standT_false {l : List Int} {s : Pos} {at' j : Nat} {o : List Place} (h : (standT l s at' j o).1 = false) : (standT l s at' j o).2 = o := by
  unfold standT at h ⊢
  cases hd : standD l s at' j with
  | none => rfl
  | some d => rw [hd] at h; cases h
theorem tryT_false {f : Font} {l : List Int} {x : Lookup} {s : Pos} {at' : Nat} {o : List Place} (h : (tryT f l x s at' o).1 = false) : (tryT f l x s at' o).2 = o := by
  unfold tryT at h ⊢
  split at h
  · rename_i h1
    rw [if_pos h1]
    unfold kernT at h ⊢
    cases hd : kernD f x.flag l s.kerns at' with
    | none => rfl
    | some d => rw [hd] at h; cases h
  · rename_i h1
    rw [if_neg h1]
    split at h
    · rename_i h2
      rw [if_pos h2]
      unfold baseT at h ⊢
      cases hd : downN (baseP2 f x.flag l) at' with
      | none => rfl
      | some j => rw [hd] at h; exact standT_false h
    · rename_i h2
      rw [if_neg h2]
      split at h
      · rename_i h3
        rw [if_pos h3]
        unfold markT at h ⊢
        cases hd : downN (markP2 f x.flag l) at' with
        | none => rfl
        | some j =>
          rw [hd] at h
          dsimp only at h ⊢
          split at h
          · rename_i h4; rw [if_pos h4]; exact standT_false h
          · rename_i h4; rw [if_neg h4]
      · rename_i h3
        rw [if_neg h3]
theorem innerF_ok (f : Font) (l : List Int) (x : Lookup) (at' : Nat) : ∀ (ps : List Pos) (o : List Place), (∀ s ∈ ps, KernsOk s) → StepOk at' o (innerF f l x at' ps o)
  | [], o, _ => StepOk.refl _ _
  | s :: r, o, h => by
    unfold innerF
    split
    · exact tryT_ok _ _ _ _ _ _ (h s (by simp))
    · exact innerF_ok f l x at' r o (fun s hs => h s (by simp [hs]))

/-- advances are no more than so far -/
def AdvB (M : Int) (k : Nat) (o : List Place) : Prop := ∀ i, i < o.length → -(M + if i < k then 40000 else 0) ≤ (nth o i).adv ∧ (nth o i).adv ≤ M + if i < k then 40000 else 0
theorem rowF_ok (f : Font) (l : List Int) (x : Lookup) (hx : ∀ s ∈ x.poss, KernsOk s) (M : Int) (o : List Place) (h : AdvB M 0 o) : ∀ k, (rowF f l x k o).length = o.length ∧ AdvB M k (rowF f l x k o)
  | 0 => ⟨rfl, h⟩
  | k + 1 => by
    obtain ⟨h1, h2⟩ := rowF_ok f l x hx M o h k
    have up : AdvB M (k + 1) (rowF f l x k o) := fun i hi => by
      have := h2 i hi
      split at this <;> split <;> omega
    unfold rowF
    split
    · exact ⟨h1, up⟩
    · have st := innerF_ok f l x k x.poss (rowF f l x k o) hx
      refine ⟨by rw [st.len, h1], fun i hi => ?_⟩
      rw [st.len] at hi
      by_cases e : i = k
      · subst e
        have h3 := h2 i hi
        have h4 := st.adv hi
        rw [if_neg (by omega)] at h3
        rw [if_pos (by omega)]
        omega
      · rw [st.other i e]
        exact up i hi
structure FontOk (f : Font) : Prop where
  adv : U16L f.adv
  pl : f.poss.length ≤ 1000
  fl : f.pfeats.length ≤ 9223372036854775807
  fk : ∀ x ∈ f.pfeats, x.lks.length ≤ 9223372036854775807
  ll : ∀ x ∈ f.poss, x.poss.length ≤ 9223372036854775807
  ps : ∀ x ∈ f.poss, ∀ s ∈ x.poss, PosB s
  ks : ∀ x ∈ f.poss, ∀ s ∈ x.poss, KernsOk s
theorem advF_range {f : Font} (h : U16L f.adv) (g : Int) (hg : 0 ≤ g) : 0 ≤ advF f g ∧ advF f g ≤ 65535 := by
  unfold advF
  split
  · decide
  · exact h.nth (by omega)
theorem startP_adv {f : Font} (h : U16L f.adv) (g : Int) (hg : 0 ≤ g) : (startP f g).adv = advF f g := by
  have := advF_range h g hg
  show IntKind.i32.wrap (advF f g) = _
  rw [IntKind.wrap_i32]; omega
theorem lookF_ok {f : Font} (h : FontOk f) {l : List Int} (hl : U16L l) : ∀ n, n ≤ f.poss.length → (lookF f l n).length = l.length ∧ AdvB (65535 + 40000 * n) 0 (lookF f l n)
  | 0, _ => by
    refine ⟨by unfold lookF; rw [List.length_map], fun i hi => ?_⟩
    have hi' : i < l.length := by unfold lookF at hi; rw [List.length_map] at hi; exact hi
    have hn : nth (lookF f l 0) i = startP f (nth l i) := by
      unfold lookF nth
      rw [List.getD_eq_getElem?_getD, List.getD_eq_getElem?_getD, List.getElem?_map, List.getElem?_eq_getElem hi']
      rfl
    have hg := hl.nth hi'
    rw [hn, startP_adv h.adv _ hg.1]
    have := advF_range h.adv _ hg.1
    rw [if_neg (by omega)]
    omega
  | n + 1, hn => by
    obtain ⟨h1, h2⟩ := lookF_ok h hl n (by omega)
    unfold lookF
    split
    · have := rowF_ok f l (nth f.poss n) (h.ks _ (nth_mem (by omega))) (65535 + 40000 * n) (lookF f l n) h2 l.length
      refine ⟨by rw [this.1, h1], fun i hi => ?_⟩
      have h3 := this.2 i hi
      rw [if_pos (by rw [this.1, h1] at hi; exact hi)] at h3
      rw [if_neg (by omega)]
      omega
    · refine ⟨h1, fun i hi => ?_⟩
      have h3 := h2 i hi
      rw [if_neg (by omega)] at h3 ⊢
      omega
/-- ahead of a place: as much is known -/
theorem mid_adv {f : Font} (h : FontOk f) {l : List Int} (hl : U16L l) {n k : Nat} (hn : n < f.poss.length) {i : Nat} (hi : i < l.length) :
    (rowF f l (nth f.poss n) k (lookF f l n)).length = l.length ∧ -2000000000 ≤ (nth (rowF f l (nth f.poss n) k (lookF f l n)) i).adv ∧ (nth (rowF f l (nth f.poss n) k (lookF f l n)) i).adv ≤ 2000000000 := by
  obtain ⟨h1, h2⟩ := lookF_ok h hl n (by omega)
  obtain ⟨h3, h4⟩ := rowF_ok f l (nth f.poss n) (h.ks _ (nth_mem hn)) _ _ h2 k
  have h5 := h4 i (by rw [h3, h1]; exact hi)
  have h6 := h.pl
  refine ⟨by rw [h3, h1], ?_⟩
  split at h5 <;> omega
end Go.Proofs.Ytaiapnemlnmeiaa
