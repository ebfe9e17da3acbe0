/- Arguments whose slices fit the address space. -/
import Derived.Test.YtjflgkadagkllaaEng
import Derived.SizedLaws
universe u
namespace Go.Eng
open Go.RowKit
open Classical

def OpensZ (P : Program) (t : TypeId) (sz : Nat) {α : Type} (enc : α → List DV) (ok : α → Prop) : Prop :=
  ∀ {H : Type} (en : TypeId × Value → H) (w : World) (base : Nat) (spare : Nat → Bool) (held : Bool) (fuel : Nat) (cs : List Value) (x : DataW H × List MemPlace), DataW.trod en P w base spare held fuel t cs = some x → (∀ n ∈ x.1.weights P t, n ≤ reachBytes) →
    cs.length = sz ∧ ∃ a : α, ok a ∧ (enc a).length = sz ∧ ∀ (j : Nat) (d : DV), (enc a)[j]? = some d → ∃ v : Value, cs[j]? = some v ∧ DRep (· < w.heap.size) w d v
theorem Opens.z {P : Program} {t : TypeId} {sz : Nat} {α : Type} {enc : α → List DV} {ok : α → Prop} (h : Opens P t sz enc ok) : OpensZ P t sz enc ok :=
  fun en w base spare held fuel cs x hx _ => h en w base spare held fuel cs x hx
theorem weightsAll_mem {H : Type} {P : Program} {e : TypeId} : ∀ {l : List (DataW H)} {d : DataW H} {n : Nat}, d ∈ l → n ∈ d.weights P e → n ∈ DataW.weightsAll P e l
  | [], d, n, h, _ => (by cases h)
  | x :: r, d, n, h, hn => by
    rw [DataW.weightsAll]
    rcases List.mem_cons.1 h with rfl | h
    · exact List.mem_append.2 (.inl hn)
    · exact List.mem_append.2 (.inr (weightsAll_mem h hn))
theorem weightsEach_mem {H : Type} {P : Program} : ∀ {ts : List TypeId} {ds : List (DataW H)} {i : Nat} {t : TypeId} {d : DataW H} {n : Nat}, ts[i]? = some t → ds[i]? = some d → n ∈ d.weights P t → n ∈ DataW.weightsEach P ts ds
  | [], ds, i, t, d, n, h, _, _ => by simp at h
  | t' :: ts, [], i, t, d, n, _, h, _ => by simp at h
  | t' :: ts, d' :: ds, 0, t, d, n, h1, h2, hn => by
    simp only [List.getElem?_cons_zero, Option.some.injEq] at h1 h2
    subst h1 h2
    rw [DataW.weightsEach]
    exact List.mem_append.2 (.inl hn)
  | t' :: ts, d' :: ds, i + 1, t, d, n, h1, h2, hn => by
    rw [DataW.weightsEach]
    exact List.mem_append.2 (.inr (weightsEach_mem (by simpa using h1) (by simpa using h2) hn))
theorem openZ_slice {P : Program} {t e : TypeId} {sz : Nat} {α : Type} [inh : Inhabited α] {enc : α → List DV} {ok : α → Prop} (ht : P.underlying t = some (.slice e)) (hc : P.cellsOf e = sz) (hsz : 0 < sz) (hbe : 0 < P.bytesOf e) (he : OpensZ P e sz enc ok) :
    OpensZ P t 1 (fun xs : List α => [.sl α inh sz enc xs]) (fun xs => xs.length ≤ 140737488351232 ∧ ∀ x ∈ xs, ok x) := by
  intro H en w base spare held fuel cs x hx hw
  suffices h : ∃ v a, cs = [v] ∧ (fun xs : List α => xs.length ≤ 140737488351232 ∧ ∀ x ∈ xs, ok x) a ∧ DRep (· < w.heap.size) w (.sl α inh sz enc a) v by
    obtain ⟨v, a, rfl, ha, hd⟩ := h
    refine ⟨rfl, a, ha, rfl, fun j d hj => ?_⟩
    cases j with
    | zero => simp only [List.getElem?_cons_zero, Option.some.injEq] at hj; subst hj; exact ⟨v, rfl, hd⟩
    | succ j => simp at hj
  rcases Deep.open_slice ht hx with ⟨rfl, _⟩ | ⟨a, len, cap, m, n, D, Pl, rfl, hb, hl, hm, hmm, hxx, hi⟩
  · exact ⟨_, [], rfl, ⟨Nat.zero_le _, fun x hx => by simp at hx⟩, .sl (xs := ([] : List α)) none 0 0 0 (fun _ _ => undef) (Nat.le_refl _) (fun h => absurd rfl h) (fun i j d hi => by simp at hi) (fun i j d hi => by simp at hi)⟩
  · have hlm : len ≤ m := by rw [hmm]; split <;> omega
    subst hxx
    have hwt : (((List.range len).map D).length + ((List.range (m - len)).map fun j => D (len + j)).length) * P.bytesOf e ≤ reachBytes := hw _ (by rw [DataW.weights, ht]; exact List.mem_cons_self ..)
    have hlen : len ≤ 140737488351232 := by
      rw [List.length_map, List.length_range] at hwt
      have h1 : len * 1 ≤ (len + ((List.range (m - len)).map fun j => D (len + j)).length) * P.bytesOf e := Nat.mul_le_mul (Nat.le_add_right _ _) hbe
      have h2 : reachBytes = 140737488351232 := rfl
      omega
    have hwd : ∀ i, i < len → ∀ k ∈ (D i).weights P e, k ≤ reachBytes := fun i hi k hk => hw _ (by
      rw [DataW.weights, ht]
      exact List.mem_cons_of_mem _ (List.mem_append.2 (.inl (weightsAll_mem (List.mem_map.2 ⟨i, List.mem_range.2 hi, rfl⟩) hk))))
    rw [hc] at hi
    have each : ∀ i, i < len → ∃ y : α × List Value, ok y.1 ∧ (enc y.1).length = sz ∧ w.cells? base (a.add (i * sz)) sz = some y.2 ∧ ∀ (j : Nat) (d : DV), (enc y.1)[j]? = some d → ∃ v : Value, y.2[j]? = some v ∧ DRep (· < w.heap.size) w d v := by
      intro i hi'
      obtain ⟨cs', h1, h2⟩ := hi i (by omega)
      obtain ⟨_, y, hy, hyl, hyd⟩ := he en w base spare held n cs' _ h2 (hwd i hi')
      exact ⟨(y, cs'), hy, hyl, h1, hyd⟩
    obtain ⟨f, hf⟩ := Deep.choose_lt (α := α × List Value) each
    obtain ⟨b, o, spot⟩ := a
    let xs : List α := (List.range len).map fun i => (f i).1
    have hxl : xs.length = len := by simp [xs]
    have hxn : ∀ i, i < len → nth xs i = (f i).1 := by
      intro i hi'
      rw [nth_eq xs i (by omega)]
      simp [xs]
    have hsp : 0 < len → spot = none ∧ b < w.heap.size := by
      intro h0
      obtain ⟨_, hcl, hat⟩ := World.cells?_some (hf 0 h0).2.2.1
      have h1 := hat 0 hsz
      rw [List.getElem?_eq_getElem (by omega)] at h1
      have h2 := World.cell?_spot h1
      refine ⟨by simpa [Addr.add] using h2, ?_⟩
      rcases Nat.lt_or_ge b w.heap.size with h | h
      · exact h
      · exfalso
        have h3 := cell_lt h1
        rw [add_blk, add_blk] at h3
        exact absurd h3 (by show ¬ b < _; omega)
    have hcell : ∀ i j d, i < len → (enc (nth xs i))[j]? = some d → ∃ v, (f i).2[j]? = some v ∧ w.cell? ⟨b, o + i * sz + j, none⟩ = some v ∧ DRep (· < w.heap.size) w d v := by
      intro i j d hi' hd
      rw [hxn i hi'] at hd
      obtain ⟨_, hel, hc1, hrep⟩ := hf i hi'
      obtain ⟨v, hv, hr⟩ := hrep j d hd
      obtain ⟨_, hcl, hat⟩ := World.cells?_some hc1
      have hj : j < sz := by have := (List.getElem?_eq_some_iff.1 hd).1; omega
      have h1 := hat j hj
      rw [hv] at h1
      obtain ⟨hs, _⟩ := hsp (by omega)
      subst hs
      rw [add_none, add_none] at h1
      exact ⟨v, hv, h1, hr⟩
    refine ⟨_, xs, rfl, ⟨by omega, fun x hx => ?_⟩, ?_⟩
    · simp only [xs, List.mem_map, List.mem_range] at hx
      obtain ⟨i, hi', rfl⟩ := hx
      exact (hf i hi').1
    · rw [← hxl]
      refine .sl (some ⟨b, o, spot⟩) cap b o (fun i j => ((f i).2[j]?).getD undef) (by omega) (fun hne => ?_) (fun i j d hi' hd => ?_) (fun i j d hi' hd => ?_)
      · have : 0 < len := by rw [← hxl]; exact List.length_pos_iff.2 hne
        obtain ⟨h1, h2⟩ := hsp this
        subst h1
        exact ⟨rfl, h2⟩
      · obtain ⟨v, hv, h1, _⟩ := hcell i j d (by omega) hd
        simp only [hv, Option.getD_some]; exact h1
      · obtain ⟨v, hv, _, h2⟩ := hcell i j d (by omega) hd
        simp only [hv, Option.getD_some]; exact h2
theorem OpensZ.map {P : Program} {t : TypeId} {sz : Nat} {α β : Type} {enc : α → List DV} {ok : α → Prop} (h : OpensZ P t sz enc ok) (g : α → β) {enc' : β → List DV} {ok' : β → Prop} (hg : ∀ a, ok a → enc' (g a) = enc a) (hok : ∀ a, ok a → ok' (g a)) : OpensZ P t sz enc' ok' := by
  intro H en w base spare held fuel cs x hx hw
  obtain ⟨hl, a, ha, hla, hd⟩ := h en w base spare held fuel cs x hx hw
  exact ⟨hl, g a, hok a ha, by rw [hg a ha]; exact hla, by rw [hg a ha]; exact hd⟩
def OpensFZ (P : Program) (fl : List Field) (off sz : Nat) {α : Type} (enc : α → List DV) (ok : α → Prop) : Prop :=
  ∀ {H : Type} (en : TypeId × Value → H) (w : World) (base : Nat) (spare : Nat → Bool) (held : Bool) (fuel : Nat) (cs : List Value), (∀ f ∈ fl, ∃ y : DataW H × List MemPlace, DataW.trod en P w base spare held fuel f.type ((cs.drop f.offset).take (P.cellsOf f.type)) = some y ∧ ∀ n ∈ y.1.weights P f.type, n ≤ reachBytes) →
    ∃ a : α, ok a ∧ (enc a).length = sz ∧ ∀ (j : Nat) (d : DV), (enc a)[j]? = some d → ∃ v : Value, cs[off + j]? = some v ∧ DRep (· < w.heap.size) w d v
theorem openFZ_nil {P : Program} {off : Nat} : OpensFZ P [] off 0 (fun _ : Unit => []) (fun _ => True) := by
  intro H en w base spare held fuel cs _
  exact ⟨(), trivial, rfl, fun j d h => by simp at h⟩
theorem openFZ_cons {P : Program} {f : Field} {fl : List Field} {off sz1 sz2 : Nat} {α β : Type} {enc1 : α → List DV} {enc2 : β → List DV} {ok1 : α → Prop} {ok2 : β → Prop} (ho : f.offset = off) (hc : P.cellsOf f.type = sz1) (h1 : OpensZ P f.type sz1 enc1 ok1) (h2 : OpensFZ P fl (off + sz1) sz2 enc2 ok2) :
    OpensFZ P (f :: fl) off (sz1 + sz2) (fun x : α × β => enc1 x.1 ++ enc2 x.2) (fun x => ok1 x.1 ∧ ok2 x.2) := by
  intro H en w base spare held fuel cs h
  obtain ⟨y, hy, hyw⟩ := h f (by simp)
  obtain ⟨hl, a, ha, hla, hd⟩ := h1 en w base spare held fuel _ y hy hyw
  obtain ⟨b, hb, hlb, hdb⟩ := h2 en w base spare held fuel cs (fun g hg => h g (by simp [hg]))
  refine ⟨(a, b), ⟨ha, hb⟩, by rw [List.length_append, hla, hlb], fun j d hj => ?_⟩
  rcases Nat.lt_or_ge j sz1 with hj1 | hj1
  · have hla' : (enc1 (a, b).1).length = sz1 := hla
    rw [List.getElem?_append_left (by omega)] at hj
    obtain ⟨v, hv, hr⟩ := hd j d hj
    refine ⟨v, ?_, hr⟩
    rw [hc, ho, List.getElem?_take_of_lt hj1, List.getElem?_drop] at hv
    exact hv
  · have hla' : (enc1 (a, b).1).length = sz1 := hla
    rw [List.getElem?_append_right (by omega), hla'] at hj
    obtain ⟨v, hv, hr⟩ := hdb (j - sz1) d hj
    exact ⟨v, by rw [← hv]; congr 1; omega, hr⟩
theorem openZ_struct {P : Program} {t : TypeId} {fs : Array Field} {sz : Nat} {α : Type} {enc : α → List DV} {ok : α → Prop} (ht : P.underlying t = some (.struct fs)) (hc : P.cellsOf t = sz) (h : OpensFZ P fs.toList 0 sz enc ok) : OpensZ P t sz enc ok := by
  intro H en w base spare held fuel cs x hx hw
  obtain ⟨xs, n, _, hxx, hl, hxl, hf⟩ := DataW.trod_struct ht hx
  subst hxx
  refine ⟨by rw [hl, hc], ?_⟩
  obtain ⟨a, ha, hla, hd⟩ := h en w base spare held n cs (fun f hf' => by
    obtain ⟨i, hi⟩ := List.getElem?_of_mem hf'
    have hi' : fs[i]? = some f := by simpa using hi
    rw [hf i f hi']
    have hlt : i < xs.length := by rw [hxl]; exact (Array.getElem?_eq_some_iff.1 hi').1
    refine ⟨xs[i], List.getElem?_eq_getElem hlt, fun k hk => hw k ?_⟩
    rw [DataW.weights, ht]
    refine weightsEach_mem (i := i) (t := f.type) (d := xs[i].1) ?_ ?_ hk
    · rw [List.getElem?_map, hi]; rfl
    · rw [List.getElem?_map, List.getElem?_eq_getElem hlt]; rfl)
  exact ⟨a, ha, hla, fun j d hj => by have := hd j d hj; simpa using this⟩
/-- an argument that is a slice -/
theorem OpensZ.rd {P : Program} {t : TypeId} {sz : Nat} {α : Type} [inh : Inhabited α] {enc : α → List DV} {ok : List α → Prop} (h : OpensZ P t 1 (fun xs : List α => [.sl α inh sz enc xs]) ok)
    {H : Type} {en : TypeId × Value → H} {w : World} {base : Nat} {spare : Nat → Bool} {held : Bool} {ad : Option Addr} {len cap : Nat} {d : DataW H} {p : List MemPlace} (ht : DataW.Trod en P w base spare held t (.slice ad len cap) d p) (hw : ∀ n ∈ d.weights P t, n ≤ reachBytes) :
    ∃ xs, ok xs ∧ Rd w (.slice ad len cap) sz enc xs := by
  obtain ⟨fuel, hf⟩ := ht
  obtain ⟨_, xs, hok, _, hd⟩ := h en w base spare held fuel _ _ hf hw
  obtain ⟨v, hv, hr⟩ := hd 0 _ rfl
  simp only [Value.cells, List.getElem?_cons_zero, Option.some.injEq] at hv
  subst hv
  exact ⟨xs, hok, hr⟩
end Go.Eng
