/- calamuslaw17.AttachKerns: what it computes. -/
import Derived.Test.YtaiapnemlnmeiaaT16
namespace Go.Proofs.Ytaiapnemlnmeiaa
open Go Go.Eng Go.RowKit

def advL (adv : List Int) (g : Int) : Int := if (adv.length : Int) ≤ g then 0 else nth adv g.toNat
theorem advance2_c (adv : List Int) (g : Int) (hg : 0 ≤ g) (hg2 : g ≤ 65535) (u x y a c m s sf p pf : Value) (w : World) (ha : Rd w a 1 hE adv) : Calls Try.prog 9 #[.agg #[u, x, y, a, c, m, s, sf, p, pf], .int .u16 g] w fun e w' => e = .returned (.int .u16 (advL adv g)) ∧ Below w.heap.size w w' := by
  refine calls_exec (cf := cf) cfok (fn := Try.f9) Try.func9 rfl [.agg [.v u, .v x, .v y, .sl 0, .v c, .v m, .v s, .v sf, .v p, .v pf], .v (.int .u16 g)] [.rd Int inferInstance 1 hE adv] (ρ := fun _ => a) (· < w.heap.size) rfl rfl rfl (by simp [svOkL, svOk]) (memRd (fun _ h => h) ⟨ha, trivial⟩) ?_
  have e : IntKind.i64.wrap g = g := i64_id _ (by omega) (by omega)
  unfold advL
  refine And.intro (fun h => ?_) (fun h => ?_)
  · have h : IntKind.i64.wrap g ≥ (adv.length : Int) := of_decide_eq_true h
    rw [e] at h
    rw [if_pos h]
    exact fun ρ S w' hi => ⟨rfl, hi.below⟩
  have h : ¬ IntKind.i64.wrap g ≥ (adv.length : Int) := of_decide_eq_false h
  rw [e] at h
  rw [if_neg h]
  refine And.intro ⟨hg, by omega⟩ ?_
  exact fun ρ S w' hi => ⟨rfl, hi.below⟩

def fK (k : List Kern) (adv : List Int) : Font := ⟨0, 0, 0, adv, [], [], [], [], [⟨2, 0, [], [⟨k, [], []⟩]⟩], [⟨107, 101, 114, 110, [0]⟩]⟩
structure KernsB (k : List Kern) : Prop where
  len : k.length ≤ 300
  x : ∀ q ∈ k, -32768 ≤ q.x ∧ q.x ≤ 32767
theorem fKOk {k : List Kern} {adv : List Int} (hk : KernsB k) (ha : U16L adv) : FontOk (fK k adv) where
  adv := ha
  pl := by show (1 : Nat) ≤ 1000; decide
  fl := by show (1 : Nat) ≤ _; decide
  fk := fun x hx => by
    simp only [fK, List.mem_singleton] at hx
    subst hx
    show (1 : Nat) ≤ _
    decide
  ll := fun x hx => by
    simp only [fK, List.mem_singleton] at hx
    subst hx
    show (1 : Nat) ≤ _
    decide
  ps := fun x hx s hs => by
    simp only [fK, List.mem_singleton] at hx
    subst hx
    simp only [List.mem_singleton] at hs
    subst hs
    exact ⟨Nat.le_trans hk.len (by decide), Nat.zero_le _, Nat.zero_le _, fun m hm => by simp at hm⟩
  ks := fun x hx s hs => by
    simp only [fK, List.mem_singleton] at hx
    subst hx
    simp only [List.mem_singleton] at hs
    subst hs
    exact ⟨fun q hq => by have := hk.x q hq; omega⟩
theorem fKon (k : List Kern) (adv : List Int) : onF (fK k adv) (0 : Nat) = true := by
  unfold onF fK
  simp only [idxF, onP, tg0, Bool.true_and]
  rfl
theorem fKpass (k : List Kern) (adv : List Int) (flag g : Int) (hg : 0 ≤ g) : passF (fK k adv) flag g = false := by
  unfold passF
  have : clsF (fK k adv) g = 0 := by unfold clsF; rw [if_pos (show (((fK k adv).cls.length : Nat) : Int) ≤ g from hg)]
  rw [this]
  rfl
theorem skip_none {p : Int → Bool} {l : List Int} (h : ∀ g ∈ l, p g = false) (i : Nat) : skipN p l i = i := by
  cases l with
  | nil => rfl
  | cons g r =>
    unfold skipN
    rw [if_neg (by rw [h g (by simp)]; decide)]
/-- what a glyph's advance is -/
def kw (k : List Kern) (adv l : List Int) (i : Nat) : Int :=
  if i + 1 = l.length then advL adv (nth l i)
  else if idxF (kernP l i (i + 1)) k 0 < 0 then advL adv (nth l i) else advL adv (nth l i) + (nth k (idxF (kernP l i (i + 1)) k 0).toNat).x
theorem kernJ_K {k : List Kern} {adv l : List Int} (hl : U16L l) (flag : Int) (i : Nat) : kernJ (fK k adv) flag l i = i + 1 :=
  skip_none (fun g hg => fKpass k adv flag g (hl g (List.mem_of_mem_drop hg)).1) _
theorem kernRow {k : List Kern} {adv l : List Int} (hl : U16L l) (ha : U16L adv) : ∀ n, n ≤ l.length → ∀ i, i < l.length →
    (rowF (fK k adv) l ⟨2, 0, [], [⟨k, [], []⟩]⟩ n (l.map (startP (fK k adv)))).length = l.length ∧
    nth (rowF (fK k adv) l ⟨2, 0, [], [⟨k, [], []⟩]⟩ n (l.map (startP (fK k adv)))) i = if i < n then ⟨kw k adv l i, -1, 0, 0⟩ else ⟨advL adv (nth l i), -1, 0, 0⟩
  | 0, _, i, hi => by
    refine ⟨List.length_map _, ?_⟩
    rw [if_neg (by omega)]
    show nth (l.map (startP (fK k adv))) i = _
    rw [nth_map _ _ _ hi]
    have := startP_adv (f := fK k adv) ha (nth l i) (hl.nth hi).1
    show (⟨(startP (fK k adv) (nth l i)).adv, -1, 0, 0⟩ : Place) = _
    rw [this]
    rfl
  | n + 1, hn, i, hi => by
    have hn' : n < l.length := by omega
    obtain ⟨h1, h2⟩ := kernRow hl ha n (by omega) n hn'
    obtain ⟨_, h3⟩ := kernRow hl ha n (by omega) i hi
    rw [if_neg (by omega)] at h2
    have hrow : rowF (fK k adv) l ⟨2, 0, [], [⟨k, [], []⟩]⟩ (n + 1) (l.map (startP (fK k adv))) = (kernT (fK k adv) l ⟨2, 0, [], [⟨k, [], []⟩]⟩ ⟨k, [], []⟩ n (rowF (fK k adv) l ⟨2, 0, [], [⟨k, [], []⟩]⟩ n (l.map (startP (fK k adv))))).2 := by
      rw [rowF, if_neg (by rw [fKpass _ _ _ _ (hl.nth hn').1]; decide)]
      have ht : ∀ o, tryT (fK k adv) l ⟨2, 0, [], [⟨k, [], []⟩]⟩ ⟨k, [], []⟩ n o = kernT (fK k adv) l ⟨2, 0, [], [⟨k, [], []⟩]⟩ ⟨k, [], []⟩ n o := fun o => by unfold tryT; rw [if_pos rfl]
      show innerF _ _ _ _ [⟨k, [], []⟩] _ = _
      unfold innerF
      rw [ht]
      split
      · rfl
      · rename_i hb
        have := tryT_false (f := fK k adv) (l := l) (x := ⟨2, 0, [], [⟨k, [], []⟩]⟩) (s := ⟨k, [], []⟩) (at' := n) (o := rowF (fK k adv) l ⟨2, 0, [], [⟨k, [], []⟩]⟩ n (l.map (startP (fK k adv)))) (by rw [ht]; simpa using hb)
        rw [ht] at this
        rw [this]
        rfl
    rw [hrow]
    generalize rowF (fK k adv) l ⟨2, 0, [], [⟨k, [], []⟩]⟩ n (l.map (startP (fK k adv))) = o at *
    have hD : kernD (fK k adv) 0 l k n = if n + 1 = l.length then none else if idxF (kernP l n (n + 1)) k 0 < 0 then none else some (nth k (idxF (kernP l n (n + 1)) k 0).toNat).x := by
      unfold kernD
      rw [kernJ_K hl]
    have hT : (kernT (fK k adv) l ⟨2, 0, [], [⟨k, [], []⟩]⟩ ⟨k, [], []⟩ n o).2 = match kernD (fK k adv) 0 l k n with | none => o | some d => addP o n d := by
      unfold kernT
      show (match kernD (fK k adv) 0 l k n with | none => (false, o) | some d => (true, addP o n d)).2 = _
      split <;> rfl
    rw [hT, hD]
    by_cases e1 : n + 1 = l.length
    · rw [if_pos e1]
      refine ⟨h1, ?_⟩
      by_cases e : i = n
      · subst e
        rw [if_pos (by omega)]
        show nth o i = _
        rw [h2]
        unfold kw
        rw [if_pos e1]
      · show nth o i = _
        rw [h3]
        by_cases h : i < n
        · rw [if_pos h, if_pos (by omega)]
        · rw [if_neg h, if_neg (by omega)]
    rw [if_neg e1]
    by_cases e2 : idxF (kernP l n (n + 1)) k 0 < 0
    · rw [if_pos e2]
      refine ⟨h1, ?_⟩
      by_cases e : i = n
      · subst e
        rw [if_pos (by omega)]
        show nth o i = _
        rw [h2]
        unfold kw
        rw [if_neg e1, if_pos e2]
      · show nth o i = _
        rw [h3]
        by_cases h : i < n
        · rw [if_pos h, if_pos (by omega)]
        · rw [if_neg h, if_neg (by omega)]
    rw [if_neg e2]
    refine ⟨by show (addP o n _).length = _; rw [addP_len, h1], ?_⟩
    show nth (addP o n _) i = _
    unfold addP
    by_cases e : i = n
    · subst e
      rw [nth_set _ (by omega), if_pos (by omega), h2]
      unfold kw
      rw [if_neg e1, if_neg e2]
    · rw [nth_set_ne _ e, h3]
      by_cases h : i < n
      · rw [if_pos h, if_pos (by omega)]
      · rw [if_neg h, if_neg (by omega)]
theorem kernApply {k : List Kern} {adv l : List Int} (hl : U16L l) (ha : U16L adv) : (applyF (fK k adv) l).length = l.length ∧ ∀ i, i < l.length → nth (applyF (fK k adv) l) i = ⟨kw k adv l i, -1, 0, 0⟩ := by
  have e : applyF (fK k adv) l = rowF (fK k adv) l ⟨2, 0, [], [⟨k, [], []⟩]⟩ l.length (l.map (startP (fK k adv))) := by
    show lookF (fK k adv) l 1 = _
    rw [lookF, if_pos (fKon k adv), lookF]
    rfl
  rw [e]
  refine ⟨?_, fun i hi => ?_⟩
  · cases hl0 : l with
    | nil => rfl
    | cons g r => rw [← hl0]; exact (kernRow hl ha l.length (Nat.le_refl _) 0 (by rw [hl0]; simp)).1
  · have := (kernRow (k := k) hl ha l.length (Nat.le_refl _) i hi).2
    rw [if_pos hi] at this
    exact this
end Go.Proofs.Ytaiapnemlnmeiaa
