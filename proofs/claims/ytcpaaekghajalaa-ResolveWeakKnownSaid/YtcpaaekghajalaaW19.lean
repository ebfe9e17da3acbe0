/- The row of resolve: its methods at and first, and Weak's closure put. -/
import Derived.Test.YtcpaaekghajalaaW18
namespace Go.Proofs.Ytcpaaekghajalaa
open Go Go.Eng Go.RowKit

theorem bxR {st : St} {ρ : Nat → Value} {S : Nat → Prop} {w : World} (hm : MemOk st ρ S w) (id : Nat) {t : TypeId} {cells : List SV} (hid : Nat.blt id st.ch.length = true) (hc : chGet st.ch id = .bx t cells) (ds : List DV) (hl : ds.length = cells.length)
    (hds : ∀ (j : Nat) s d, cells[j]? = some s → ds[j]? = some d → DRep (· < w.heap.size) w d (den ρ s)) : DRep (· < w.heap.size) w (.ptr ds) (den ρ (.bx id 0)) := by
  have hok := hm.ok id (blt_lt hid)
  rw [hc] at hok
  obtain ⟨b, hv, hg⟩ := hok
  simp only [den, hv]
  have hrep : ∀ (j : Nat) d, ds[j]? = some d → ∃ x, (denL ρ cells)[j]? = some x ∧ DRep (· < w.heap.size) w d x := fun j d hd => by
    have hj : j < cells.length := by rw [← hl]; exact (List.getElem?_eq_some_iff.1 hd).1
    refine ⟨den ρ cells[j], by rw [denL_eq, List.getElem?_map, List.getElem?_eq_getElem hj]; rfl, hds j _ d (List.getElem?_eq_getElem hj) hd⟩
  refine .ptr b 0 (fun j => ((denL ρ cells)[j]?).getD undef) (Array.getElem?_eq_some_iff.1 hg).1 (fun j d hd => ?_) (fun j d hd => ?_)
  · obtain ⟨x, h1, _⟩ := hrep j d hd
    rw [Nat.zero_add, cell_of_row w b _ _ t (0, 0) hg, h1]
    simpa using h1
  · obtain ⟨x, h1, h2⟩ := hrep j d hd
    rw [h1]
    exact h2

abbrev pE : Nat → List DV := fun n => [.v (.int .i64 n)]
abbrev op (ps : List Nat) : Chunk := .own 3 Nat inferInstance 1 pE ps
abbrev rowDV (out : List Int) (ps : List Nat) (b n : Int) : List DV := [.sl Int inferInstance 1 cE out, .sl Nat inferInstance 1 pE ps, .v (.int .u8 b), .v (.int .u8 n)]

/-- a row in the caller's hands, handed on to be read -/
theorem rowR {st : St} {ρ : Nat → Value} {S : Nat → Prop} {w : World} (hm : MemOk st ρ S w) (i j id : Nat) {out : List Int} {ps : List Nat} {b n : Int} (hi : Nat.blt i st.ch.length = true) (hj : Nat.blt j st.ch.length = true) (hid : Nat.blt id st.ch.length = true)
    (h1 : chGet st.ch i = ow out) (h2 : chGet st.ch j = op ps) (hc : chGet st.ch id = .bx 51 [.sl i, .sl j, .v (.int .u8 b), .v (.int .u8 n)]) : DRep (· < w.heap.size) w (.ptr (rowDV out ps b n)) (den ρ (.bx id 0)) := by
  refine bxR hm id hid hc _ rfl fun q s d hs hd => ?_
  match q with
  | 0 => simp at hs hd; subst hs; subst hd; exact hm.own i hi h1
  | 1 => simp at hs hd; subst hs; subst hd; exact hm.own j hj h2
  | 2 => simp at hs hd; subst hs; subst hd; exact .v _ rfl
  | 3 => simp at hs hd; subst hs; subst hd; exact .v _ rfl
  | q + 4 => simp at hs

def atF (out : List Int) (ps : List Nat) (k : Int) : Int := if k < 0 ∨ k ≥ (ps.length : Int) then 10 else nth out (nth ps k.toNat)

theorem at_c (out : List Int) (ps : List Nat) (b n k : Int) (p : Value) (w : World) (hin : ∀ j, j < ps.length → nth ps j < out.length) (hl : out.length ≤ 1000000) (hp : DRep (· < w.heap.size) w (.ptr (rowDV out ps b n)) p) :
    Calls Try.prog 37 #[p, .int .i64 k] w fun e w' => e = .returned (.int .u8 (atF out ps k)) ∧ Below w.heap.size w w' := by
  cases hp with
  | ptr bb o cell hb hcell hrep =>
  refine calls_exec (cf := cf) cfok (fn := Try.f37) Try.func37 rfl [.bx 0 0, .v (.int .i64 k)] [.rp [] (rowDV out ps b n)] (ρ := fun _ => .pointer (some ⟨bb, o, none⟩)) (· < w.heap.size) rfl rfl rfl (by simp [svOkL, svOk]) (memRd (fun _ h => h) ⟨.ptr bb o cell hb hcell hrep, trivial⟩) ?_
  refine And.intro (fun h => ?_) (fun h => ?_)
  · have h : k < 0 ∨ (ps.length : Int) ≤ k := by simpa using h
    refine fun ρ S w' hi => ⟨?_, hi.below⟩
    rw [atF, if_pos h]; rfl
  · have h : ¬ (k < 0 ∨ (ps.length : Int) ≤ k) := by
      intro hh
      have hz : ∀ (b : Bool), b = false → b = true → False := by intro b h1 h2; rw [h1] at h2; cases h2
      exact hz _ h (by simpa using hh)
    have hk := hin k.toNat (by omega)
    refine Or.inl ⟨by kernel_rfl, ?_⟩
    refine And.intro ⟨by omega, by omega⟩ ?_
    refine And.intro ⟨by omega, by omega⟩ ?_
    refine fun ρ S w' hi => ⟨?_, hi.below⟩
    rw [atF, if_neg h]; rfl

abbrev rw0 (out : List Int) (ps : List Nat) (b n : Int) : List Chunk := [ow out, op ps, .bx 51 [.sl 0, .sl 1, .v (.int .u8 b), .v (.int .u8 n)]]

abbrev rw1 (out : List Int) (ps : List Nat) (b n : Int) : List Chunk := [ow out, op ps, .bx 51 [.sl 0, .sl 1, .v (.int .u8 b), .v (.int .u8 n)], .bx 48 [.bx 2 0]]

theorem put_s (out : List Int) (ps : List Nat) (b n c : Int) (k : Nat) (hk : k < ps.length) (hin : nth ps k < out.length) : LCall Try.prog ⟨0, [], rw1 out ps b n, [], []⟩ 36 [.v (.int .i64 k), .v (.int .u8 c), .bx 3 0]
    (fun st' s => st'.ch = rw1 (out.set (nth ps k) c) ps b n ∧ s = .tup []) := by
  refine lcall_exec (cf := cf) cfok (fn := Try.f36) Try.func36 rfl [.v (.int .i64 k), .v (.int .u8 c), .bx 3 0] (rw1 out ps b n) (rw1 (out.set (nth ps k) c) ps b n) (.tup []) rfl rfl (by simp [svOkL, svOk]) rfl ⟨⟨by simp, rfl⟩, ⟨Nat.le_refl _, rfl⟩, trivial, trivial, trivial⟩ rfl rfl ?_
  refine Or.inr (Or.inl ⟨12, by kernel_rfl, ?_⟩)
  refine And.intro ⟨by omega, by omega⟩ ?_
  refine And.intro ⟨by omega, by show ((nth ps (k : Int).toNat : Nat) : Int) < out.length; simp; omega⟩ ?_
  refine ⟨_, rfl, rfl, ?_⟩
  exact ⟨[0, 1, 2, 3], rfl, rfl, rfl, And.intro rfl (And.intro rfl (And.intro (And.intro rfl rfl) (And.intro (And.intro rfl rfl) trivial))), rfl⟩
end Go.Proofs.Ytcpaaekghajalaa
