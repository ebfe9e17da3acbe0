/- A font as data; font.Class, font.Advance, and whether a lookup passes over a place. -/
import Derived.Test.YtaiapnemlnmeiaaCfg
namespace Go.Proofs.Ytaiapnemlnmeiaa
open Go Go.Eng Go.RowKit

theorem ttok' : TTok Try.prog cf.tt := ttok
theorem svI {k : IntKind} {a b : Int} (h : a = b) : SV.v (.int k a) = SV.v (.int k b) := by rw [h]
abbrev bE : Int → List DV := fun n => [.v (.int .u8 n)]
abbrev hE : Int → List DV := fun n => [.v (.int .u16 n)]
abbrev iE : Int → List DV := fun n => [.v (.int .i64 n)]
abbrev jE : Int → List DV := fun n => [.v (.int .i32 n)]
structure Place where
  adv : Int
  on : Int
  x : Int
  y : Int
  deriving Inhabited
structure Kern where
  a : Int
  b : Int
  x : Int
  deriving Inhabited
structure Mark where
  g : Int
  c : Int
  x : Int
  y : Int
  deriving Inhabited
structure Anchor where
  has : Bool
  x : Int
  y : Int
  deriving Inhabited
structure Base where
  g : Int
  an : List Anchor
  deriving Inhabited
structure Pos where
  kerns : List Kern
  marks : List Mark
  bases : List Base
  deriving Inhabited
structure Many where
  g : Int
  to : List Int
  deriving Inhabited
structure Lig where
  parts : List Int
  to : Int
  deriving Inhabited
structure Pair2 where
  a : Int
  b : Int
  deriving Inhabited
structure Sub where
  pairs : List Pair2
  manys : List Many
  ligs : List Lig
  back : List (List Int)
  ins : List (List Int)
  ahead : List (List Int)
  recs : List Pair2
  deriving Inhabited
structure Lookup where
  ty : Int
  flag : Int
  subs : List Sub
  poss : List Pos
  deriving Inhabited
structure Feature where
  t0 : Int
  t1 : Int
  t2 : Int
  t3 : Int
  lks : List Int
  deriving Inhabited
structure Font where
  units : Int
  asc : Int
  desc : Int
  adv : List Int
  cls : List Int
  maps : List Pair2
  subs : List Lookup
  sfeats : List Feature
  poss : List Lookup
  pfeats : List Feature
  deriving Inhabited
abbrev plE : Place → List DV := fun p => [.v (.int .i32 p.adv), .v (.int .i64 p.on), .v (.int .i32 p.x), .v (.int .i32 p.y)]
abbrev keE : Kern → List DV := fun k => [.v (.int .u16 k.a), .v (.int .u16 k.b), .v (.int .i16 k.x)]
abbrev maE : Mark → List DV := fun m => [.v (.int .u16 m.g), .v (.int .u16 m.c), .v (.int .i16 m.x), .v (.int .i16 m.y)]
abbrev anE : Anchor → List DV := fun a => [.v (.bool a.has), .v (.int .i16 a.x), .v (.int .i16 a.y)]
abbrev baE : Base → List DV := fun b => [.v (.int .u16 b.g), .sl Anchor inferInstance 3 anE b.an]
abbrev poE : Pos → List DV := fun p => [.sl Kern inferInstance 3 keE p.kerns, .sl Mark inferInstance 4 maE p.marks, .sl Base inferInstance 2 baE p.bases]
abbrev myE : Many → List DV := fun m => [.v (.int .u16 m.g), .sl Int inferInstance 1 hE m.to]
abbrev liE : Lig → List DV := fun m => [.sl Int inferInstance 1 hE m.parts, .v (.int .u16 m.to)]
abbrev wsE : List Int → List DV := fun l => [.sl Int inferInstance 1 hE l]
abbrev paE : Pair2 → List DV := fun p => [.v (.int .u16 p.a), .v (.int .u16 p.b)]
abbrev reE : Pair2 → List DV := fun p => [.v (.int .i64 p.a), .v (.int .i64 p.b)]
abbrev mpE : Pair2 → List DV := fun p => [.v (.int .i32 p.a), .v (.int .u16 p.b)]
abbrev suE : Sub → List DV := fun s => [.sl Pair2 inferInstance 2 paE s.pairs, .sl Many inferInstance 2 myE s.manys, .sl Lig inferInstance 2 liE s.ligs, .sl (List Int) inferInstance 1 wsE s.back, .sl (List Int) inferInstance 1 wsE s.ins, .sl (List Int) inferInstance 1 wsE s.ahead, .sl Pair2 inferInstance 2 reE s.recs]
abbrev lkE : Lookup → List DV := fun k => [.v (.int .u16 k.ty), .v (.int .u16 k.flag), .sl Sub inferInstance 7 suE k.subs, .sl Pos inferInstance 3 poE k.poss]
abbrev feE : Feature → List DV := fun f => [.v (.int .u8 f.t0), .v (.int .u8 f.t1), .v (.int .u8 f.t2), .v (.int .u8 f.t3), .sl Int inferInstance 1 iE f.lks]
abbrev foD (f : Font) : List DV := [.v (.int .u16 f.units), .v (.int .i16 f.asc), .v (.int .i16 f.desc), .sl Int inferInstance 1 hE f.adv, .sl Int inferInstance 1 bE f.cls, .sl Pair2 inferInstance 2 mpE f.maps, .sl Lookup inferInstance 4 lkE f.subs, .sl Feature inferInstance 5 feE f.sfeats, .sl Lookup inferInstance 4 lkE f.poss, .sl Feature inferInstance 5 feE f.pfeats]
/-- a font's cells, its slices chunks from k on -/
abbrev foS (f : Font) (k : Nat) : List SV := [.v (.int .u16 f.units), .v (.int .i16 f.asc), .v (.int .i16 f.desc), .sl k, .sl (k + 1), .sl (k + 2), .sl (k + 3), .sl (k + 4), .sl (k + 5), .sl (k + 6)]
abbrev foC (f : Font) : List Chunk := [.rd Int inferInstance 1 hE f.adv, .rd Int inferInstance 1 bE f.cls, .rd Pair2 inferInstance 2 mpE f.maps, .rd Lookup inferInstance 4 lkE f.subs, .rd Feature inferInstance 5 feE f.sfeats, .rd Lookup inferInstance 4 lkE f.poss, .rd Feature inferInstance 5 feE f.pfeats]
abbrev woD (f : Font) (l : List Int) (out : List Place) : List DV := foD f ++ [.sl Int inferInstance 1 hE l, .sl Place inferInstance 4 plE out]

/-- a font, as a value -/
def FontV (S : Nat → Prop) (w : World) (f : Font) (v : Value) : Prop := ∃ vs, v = .agg vs.toArray ∧ repYs S w (foD f) vs

theorem FontV.get {S : Nat → Prop} {w : World} {f : Font} {v : Value} (h : FontV S w f v) : ∃ a c m s sf p pf : Value, v = .agg #[.int .u16 f.units, .int .i16 f.asc, .int .i16 f.desc, a, c, m, s, sf, p, pf] ∧
    DRep S w (.sl Int inferInstance 1 hE f.adv) a ∧ DRep S w (.sl Int inferInstance 1 bE f.cls) c ∧ DRep S w (.sl Pair2 inferInstance 2 mpE f.maps) m ∧ DRep S w (.sl Lookup inferInstance 4 lkE f.subs) s ∧
    DRep S w (.sl Feature inferInstance 5 feE f.sfeats) sf ∧ DRep S w (.sl Lookup inferInstance 4 lkE f.poss) p ∧ DRep S w (.sl Feature inferInstance 5 feE f.pfeats) pf := by
  obtain ⟨vs, rfl, h⟩ := h
  match vs, h with
  | [v1, v2, v3, v4, v5, v6, v7, v8, v9, v10], h =>
    obtain ⟨rfl, rfl, rfl, h4, h5, h6, h7, h8, h9, h10, _⟩ := h
    exact ⟨v4, v5, v6, v7, v8, v9, v10, rfl, h4, h5, h6, h7, h8, h9, h10⟩

def clsF (f : Font) (g : Int) : Int := if (f.cls.length : Int) ≤ g then 0 else nth f.cls g.toNat
def advF (f : Font) (g : Int) : Int := if (f.adv.length : Int) ≤ g then 0 else nth f.adv g.toNat

abbrev rho7 (a c m s sf p pf : Value) : Nat → Value := fun i => match i with | 0 => a | 1 => c | 2 => m | 3 => s | 4 => sf | 5 => p | _ => pf

theorem class_c (f : Font) (g : Int) (hg : 0 ≤ g) (hg2 : g ≤ 65535) (v : Value) (w : World) (hv : FontV (· < w.heap.size) w f v) : Calls Try.prog 29 #[v, .int .u16 g] w fun e w' => e = .returned (.int .u8 (clsF f g)) ∧ Below w.heap.size w w' := by
  obtain ⟨a, c, m, s, sf, p, pf, rfl, h1, h2, h3, h4, h5, h6, h7⟩ := hv.get
  refine calls_exec (cf := cf) cfok (fn := Try.f29) Try.func29 rfl [.agg (foS f 0), .v (.int .u16 g)] (foC f) (ρ := rho7 a c m s sf p pf) (· < w.heap.size) rfl rfl rfl (by simp [svOkL, svOk]) (memRd (fun _ h => h) ⟨h1, h2, h3, h4, h5, h6, h7, trivial⟩) ?_
  have e : IntKind.i64.wrap g = g := i64_id _ (by omega) (by omega)
  unfold clsF
  refine And.intro (fun h => ?_) (fun h => ?_)
  · have h : IntKind.i64.wrap g ≥ (f.cls.length : Int) := of_decide_eq_true h
    rw [e] at h
    rw [if_pos h]
    exact fun ρ S w' hi => ⟨rfl, hi.below⟩
  have h : ¬ IntKind.i64.wrap g ≥ (f.cls.length : Int) := of_decide_eq_false h
  rw [e] at h
  rw [if_neg h]
  refine And.intro ⟨hg, by omega⟩ ?_
  exact fun ρ S w' hi => ⟨rfl, hi.below⟩
theorem advance_c (f : Font) (g : Int) (hg : 0 ≤ g) (hg2 : g ≤ 65535) (v : Value) (w : World) (hv : FontV (· < w.heap.size) w f v) : Calls Try.prog 9 #[v, .int .u16 g] w fun e w' => e = .returned (.int .u16 (advF f g)) ∧ Below w.heap.size w w' := by
  obtain ⟨a, c, m, s, sf, p, pf, rfl, h1, h2, h3, h4, h5, h6, h7⟩ := hv.get
  refine calls_exec (cf := cf) cfok (fn := Try.f9) Try.func9 rfl [.agg (foS f 0), .v (.int .u16 g)] (foC f) (ρ := rho7 a c m s sf p pf) (· < w.heap.size) rfl rfl rfl (by simp [svOkL, svOk]) (memRd (fun _ h => h) ⟨h1, h2, h3, h4, h5, h6, h7, trivial⟩) ?_
  have e : IntKind.i64.wrap g = g := i64_id _ (by omega) (by omega)
  unfold advF
  refine And.intro (fun h => ?_) (fun h => ?_)
  · have h : IntKind.i64.wrap g ≥ (f.adv.length : Int) := of_decide_eq_true h
    rw [e] at h
    rw [if_pos h]
    exact fun ρ S w' hi => ⟨rfl, hi.below⟩
  have h : ¬ IntKind.i64.wrap g ≥ (f.adv.length : Int) := of_decide_eq_false h
  rw [e] at h
  rw [if_neg h]
  refine And.intro ⟨hg, by omega⟩ ?_
  exact fun ρ S w' hi => ⟨rfl, hi.below⟩

/-- a worker that is only read -/
def Wkr (S : Nat → Prop) (w : World) (v : Value) (f : Font) (l : List Int) (out : List Place) : Prop := DRep S w (.ptr (woD f l out)) v
theorem Wkr.val {S : Nat → Prop} {w : World} {v : Value} {f : Font} {l : List Int} {out : List Place} (h : Wkr S w v f l out) : ∃ k o, v = .pointer (some ⟨k, o, none⟩) := by
  unfold Wkr at h; cases h; exact ⟨_, _, rfl⟩
end Go.Proofs.Ytaiapnemlnmeiaa
