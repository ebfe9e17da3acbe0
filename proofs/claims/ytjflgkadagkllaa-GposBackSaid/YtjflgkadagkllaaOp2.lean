/- Lookups and features, as the statements' readings give them. -/
import Derived.Test.YtjflgkadagkllaaZ1
import Derived.Test.YtjflgkadagkllaaW6
import Derived.Test.YtjflgkadagkllaaOp
namespace Go.Proofs.Ytjflgkadagkllaa
open Go Go.Eng Go.RowKit

theorem u8z {n : Int} (h : (Lit.int .u8 n).wf = true) : 0 ≤ n ∧ n ≤ 255 := u8_wf h
theorem i16z {n : Int} (h : (Lit.int .i16 n).wf = true) : -32768 ≤ n ∧ n ≤ 32767 := by
  simp [Lit.wf] at h; exact h
theorem zU8 : OpensZ Try.prog 5 1 (fun n : Int => [.v (.int .u8 n)]) (fun n => (Lit.int .u8 n).wf = true) := Opens.z (opens_int Try.underlying5)
theorem zU16 : OpensZ Try.prog 47 1 (fun n : Int => [.v (.int .u16 n)]) (fun n => (Lit.int .u16 n).wf = true) := Opens.z (opens_int Try.underlying47)
theorem zI16 : OpensZ Try.prog 57 1 (fun n : Int => [.v (.int .i16 n)]) (fun n => (Lit.int .i16 n).wf = true) := Opens.z (opens_int Try.underlying57)
theorem zI64 : OpensZ Try.prog 3 1 (fun n : Int => [.v (.int .i64 n)]) (fun n => (Lit.int .i64 n).wf = true) := Opens.z (opens_int Try.underlying3)
theorem zBool : OpensZ Try.prog 4 1 (fun b : Bool => [.v (.bool b)]) (fun _ => True) := Opens.z (opens_bool Try.underlying4)
theorem zWords : OpensZ Try.prog 122 1 (fun xs : List Int => [.sl Int inferInstance 1 hE xs]) (fun xs => xs.length ≤ 140737488351232 ∧ ∀ x ∈ xs, (Lit.int .u16 x).wf = true) := openZ_slice Try.underlying122 (by kernel_rfl) (by decide) (by decide +kernel) zU16
theorem zInts : OpensZ Try.prog 41 1 (fun xs : List Int => [.sl Int inferInstance 1 zE xs]) (fun xs => xs.length ≤ 140737488351232 ∧ ∀ x ∈ xs, (Lit.int .i64 x).wf = true) := openZ_slice Try.underlying41 (by kernel_rfl) (by decide) (by decide +kernel) zI64
theorem zPair : OpensZ Try.prog 140 2 paE (fun _ => True) :=
  OpensZ.map (openZ_struct Try.underlying140 (by kernel_rfl) (openFZ_cons rfl (by kernel_rfl) zU16 (openFZ_cons rfl (by kernel_rfl) zU16 openFZ_nil))) (fun x => (⟨x.1, x.2.1⟩ : Pair2)) (fun _ _ => rfl) (fun _ _ => trivial)
theorem zRec : OpensZ Try.prog 147 2 reE (fun _ => True) :=
  OpensZ.map (openZ_struct Try.underlying147 (by kernel_rfl) (openFZ_cons rfl (by kernel_rfl) zI64 (openFZ_cons rfl (by kernel_rfl) zI64 openFZ_nil))) (fun x => (⟨x.1, x.2.1⟩ : Pair2)) (fun _ _ => rfl) (fun _ _ => trivial)
theorem zMany : OpensZ Try.prog 142 2 myE (fun _ => True) :=
  OpensZ.map (openZ_struct Try.underlying142 (by kernel_rfl) (openFZ_cons rfl (by kernel_rfl) zU16 (openFZ_cons rfl (by kernel_rfl) zWords openFZ_nil))) (fun x => (⟨x.1, x.2.1⟩ : Many)) (fun _ _ => rfl) (fun _ _ => trivial)
theorem zLig : OpensZ Try.prog 145 2 liE (fun _ => True) :=
  OpensZ.map (openZ_struct Try.underlying145 (by kernel_rfl) (openFZ_cons rfl (by kernel_rfl) zWords (openFZ_cons rfl (by kernel_rfl) zU16 openFZ_nil))) (fun x => (⟨x.1, x.2.1⟩ : Lig)) (fun _ _ => rfl) (fun _ _ => trivial)
theorem zPairs : OpensZ Try.prog 103 1 (fun xs : List Pair2 => [.sl Pair2 inferInstance 2 paE xs]) (fun xs => xs.length ≤ 140737488351232 ∧ ∀ x ∈ xs, True) := openZ_slice Try.underlying103 (by kernel_rfl) (by decide) (by decide +kernel) zPair
theorem zRecs : OpensZ Try.prog 107 1 (fun xs : List Pair2 => [.sl Pair2 inferInstance 2 reE xs]) (fun xs => xs.length ≤ 140737488351232 ∧ ∀ x ∈ xs, True) := openZ_slice Try.underlying107 (by kernel_rfl) (by decide) (by decide +kernel) zRec
theorem zManys : OpensZ Try.prog 104 1 (fun xs : List Many => [.sl Many inferInstance 2 myE xs]) (fun xs => xs.length ≤ 140737488351232 ∧ ∀ x ∈ xs, True) := openZ_slice Try.underlying104 (by kernel_rfl) (by decide) (by decide +kernel) zMany
theorem zLigs : OpensZ Try.prog 105 1 (fun xs : List Lig => [.sl Lig inferInstance 2 liE xs]) (fun xs => xs.length ≤ 140737488351232 ∧ ∀ x ∈ xs, True) := openZ_slice Try.underlying105 (by kernel_rfl) (by decide) (by decide +kernel) zLig
theorem zRows : OpensZ Try.prog 106 1 (fun xs : List (List Int) => [.sl (List Int) inferInstance 1 wsE xs]) (fun xs => xs.length ≤ 140737488351232 ∧ ∀ x ∈ xs, x.length ≤ 140737488351232 ∧ ∀ y ∈ x, (Lit.int .u16 y).wf = true) := openZ_slice Try.underlying106 (by kernel_rfl) (by decide) (by decide +kernel) zWords
theorem le63 {n : Nat} (h : n ≤ 140737488351232) : n ≤ 9223372036854775807 := by omega
theorem zSub : OpensZ Try.prog 109 7 suE SubB :=
  OpensZ.map (openZ_struct Try.underlying109 (by kernel_rfl) (openFZ_cons rfl (by kernel_rfl) zPairs (openFZ_cons rfl (by kernel_rfl) zManys (openFZ_cons rfl (by kernel_rfl) zLigs (openFZ_cons rfl (by kernel_rfl) zRows (openFZ_cons rfl (by kernel_rfl) zRows (openFZ_cons rfl (by kernel_rfl) zRows (openFZ_cons rfl (by kernel_rfl) zRecs openFZ_nil))))))))
    (fun x => (⟨x.1, x.2.1, x.2.2.1, x.2.2.2.1, x.2.2.2.2.1, x.2.2.2.2.2.1, x.2.2.2.2.2.2.1⟩ : Sub)) (fun _ _ => rfl) (fun _ h => ⟨le63 h.2.1.1, le63 h.2.2.1.1, le63 h.2.2.2.1.1, le63 h.2.2.2.2.1.1, le63 h.2.2.2.2.2.1.1⟩)
theorem zSubs : OpensZ Try.prog 48 1 (fun xs : List Sub => [.sl Sub inferInstance 7 suE xs]) (fun xs => xs.length ≤ 140737488351232 ∧ ∀ x ∈ xs, SubB x) := openZ_slice Try.underlying48 (by kernel_rfl) (by decide) (by decide +kernel) zSub
def KernA (k : Kern) : Prop := (0 ≤ k.a ∧ k.a ≤ 65535) ∧ (0 ≤ k.b ∧ k.b ≤ 65535) ∧ (-32768 ≤ k.x ∧ k.x ≤ 32767)
theorem zKern : OpensZ Try.prog 135 3 keE KernA :=
  OpensZ.map (openZ_struct Try.underlying135 (by kernel_rfl) (openFZ_cons rfl (by kernel_rfl) zU16 (openFZ_cons rfl (by kernel_rfl) zU16 (openFZ_cons rfl (by kernel_rfl) zI16 openFZ_nil)))) (fun x => (⟨x.1, x.2.1, x.2.2.1⟩ : Kern)) (fun _ _ => rfl) (fun _ h => ⟨u16_wf h.1, u16_wf h.2.1, i16z h.2.2.1⟩)
theorem zKerns : OpensZ Try.prog 52 1 (fun xs : List Kern => [.sl Kern inferInstance 3 keE xs]) (fun xs => xs.length ≤ 140737488351232 ∧ ∀ x ∈ xs, KernA x) := openZ_slice Try.underlying52 (by kernel_rfl) (by decide) (by decide +kernel) zKern
def MarkA (m : Mark) : Prop := (0 ≤ m.g ∧ m.g ≤ 65535) ∧ (0 ≤ m.c ∧ m.c ≤ 65535) ∧ (-32768 ≤ m.x ∧ m.x ≤ 32767) ∧ (-32768 ≤ m.y ∧ m.y ≤ 32767)
theorem zMark : OpensZ Try.prog 59 4 maE MarkA :=
  OpensZ.map (openZ_struct Try.underlying59 (by kernel_rfl) (openFZ_cons rfl (by kernel_rfl) zU16 (openFZ_cons rfl (by kernel_rfl) zU16 (openFZ_cons rfl (by kernel_rfl) zI16 (openFZ_cons rfl (by kernel_rfl) zI16 openFZ_nil))))) (fun x => (⟨x.1, x.2.1, x.2.2.1, x.2.2.2.1⟩ : Mark)) (fun _ _ => rfl) (fun _ h => ⟨u16_wf h.1, u16_wf h.2.1, i16z h.2.2.1, i16z h.2.2.2.1⟩)
theorem zMarks : OpensZ Try.prog 53 1 (fun xs : List Mark => [.sl Mark inferInstance 4 maE xs]) (fun xs => xs.length ≤ 140737488351232 ∧ ∀ x ∈ xs, MarkA x) := openZ_slice Try.underlying53 (by kernel_rfl) (by decide) (by decide +kernel) zMark
def AnchorA (a : Anchor) : Prop := (-32768 ≤ a.x ∧ a.x ≤ 32767) ∧ (-32768 ≤ a.y ∧ a.y ≤ 32767)
theorem zAnchor : OpensZ Try.prog 64 3 anE AnchorA :=
  OpensZ.map (openZ_struct Try.underlying64 (by kernel_rfl) (openFZ_cons rfl (by kernel_rfl) zBool (openFZ_cons rfl (by kernel_rfl) zI16 (openFZ_cons rfl (by kernel_rfl) zI16 openFZ_nil)))) (fun x => (⟨x.1, x.2.1, x.2.2.1⟩ : Anchor)) (fun _ _ => rfl) (fun _ h => ⟨i16z h.2.1, i16z h.2.2.1⟩)
theorem zAnchors : OpensZ Try.prog 60 1 (fun xs : List Anchor => [.sl Anchor inferInstance 3 anE xs]) (fun xs => xs.length ≤ 140737488351232 ∧ ∀ x ∈ xs, AnchorA x) := openZ_slice Try.underlying60 (by kernel_rfl) (by decide) (by decide +kernel) zAnchor
def BaseA (b : Base) : Prop := (0 ≤ b.g ∧ b.g ≤ 65535) ∧ b.an.length ≤ 140737488351232 ∧ ∀ a ∈ b.an, AnchorA a
theorem zBase : OpensZ Try.prog 62 2 baE BaseA :=
  OpensZ.map (openZ_struct Try.underlying62 (by kernel_rfl) (openFZ_cons rfl (by kernel_rfl) zU16 (openFZ_cons rfl (by kernel_rfl) zAnchors openFZ_nil))) (fun x => (⟨x.1, x.2.1⟩ : Base)) (fun _ _ => rfl) (fun _ h => ⟨u16_wf h.1, h.2.1.1, h.2.1.2⟩)
theorem zBases : OpensZ Try.prog 54 1 (fun xs : List Base => [.sl Base inferInstance 2 baE xs]) (fun xs => xs.length ≤ 140737488351232 ∧ ∀ x ∈ xs, BaseA x) := openZ_slice Try.underlying54 (by kernel_rfl) (by decide) (by decide +kernel) zBase
def PosA (p : PosU) : Prop := (p.kerns.length ≤ 140737488351232 ∧ ∀ x ∈ p.kerns, KernA x) ∧ (p.marks.length ≤ 140737488351232 ∧ ∀ x ∈ p.marks, MarkA x) ∧ (p.bases.length ≤ 140737488351232 ∧ ∀ x ∈ p.bases, BaseA x)
theorem zPos : OpensZ Try.prog 56 3 puE PosA :=
  OpensZ.map (openZ_struct Try.underlying56 (by kernel_rfl) (openFZ_cons rfl (by kernel_rfl) zKerns (openFZ_cons rfl (by kernel_rfl) zMarks (openFZ_cons rfl (by kernel_rfl) zBases openFZ_nil)))) (fun x => (⟨x.1, x.2.1, x.2.2.1⟩ : PosU)) (fun _ _ => rfl) (fun _ h => ⟨h.1, h.2.1, h.2.2.1⟩)
theorem zPoss : OpensZ Try.prog 49 1 (fun xs : List PosU => [.sl PosU inferInstance 3 puE xs]) (fun xs => xs.length ≤ 140737488351232 ∧ ∀ x ∈ xs, PosA x) := openZ_slice Try.underlying49 (by kernel_rfl) (by decide) (by decide +kernel) zPos
def LkA (l : LkU) : Prop := ((0 ≤ l.ty ∧ l.ty ≤ 65535) ∧ (0 ≤ l.flag ∧ l.flag ≤ 65535)) ∧ (l.subs.length ≤ 140737488351232 ∧ ∀ x ∈ l.subs, SubB x) ∧ (l.poss.length ≤ 140737488351232 ∧ ∀ x ∈ l.poss, PosA x)
theorem zLookup : OpensZ Try.prog 51 4 luE LkA :=
  OpensZ.map (openZ_struct Try.underlying51 (by kernel_rfl) (openFZ_cons rfl (by kernel_rfl) zU16 (openFZ_cons rfl (by kernel_rfl) zU16 (openFZ_cons rfl (by kernel_rfl) zSubs (openFZ_cons rfl (by kernel_rfl) zPoss openFZ_nil))))) (fun x => (⟨x.1, x.2.1, x.2.2.1, x.2.2.2.1⟩ : LkU)) (fun _ _ => rfl) (fun _ h => ⟨⟨u16_wf h.1, u16_wf h.2.1⟩, h.2.2.1, h.2.2.2.1⟩)
theorem zLookups : OpensZ Try.prog 24 1 (fun xs : List LkU => [.sl LkU inferInstance 4 luE xs]) (fun xs => xs.length ≤ 140737488351232 ∧ ∀ x ∈ xs, LkA x) := openZ_slice Try.underlying24 (by kernel_rfl) (by decide) (by decide +kernel) zLookup
theorem zTag : OpensZ Try.prog 40 (4 * 1) (fun xs : List Int => xs.flatMap bE) (fun xs => xs.length = 4 ∧ ∀ x ∈ xs, (Lit.int .u8 x).wf = true) := Opens.z (opens_array Try.underlying40 (by kernel_rfl) (by kernel_rfl) (opens_int Try.underlying5))
def FeA (f : Feat) : Prop := ((0 ≤ f.a ∧ f.a ≤ 255) ∧ (0 ≤ f.b ∧ f.b ≤ 255) ∧ (0 ≤ f.c ∧ f.c ≤ 255) ∧ (0 ≤ f.d ∧ f.d ≤ 255)) ∧ f.ks.length ≤ 140737488351232
theorem zFeature : OpensZ Try.prog 43 5 fE FeA :=
  OpensZ.map (openZ_struct Try.underlying43 (by kernel_rfl) (openFZ_cons rfl (by kernel_rfl) zTag (openFZ_cons rfl (by kernel_rfl) zInts openFZ_nil))) (fun x => (⟨nth x.1 0, nth x.1 1, nth x.1 2, nth x.1 3, x.2.1⟩ : Feat)) (fun x h => by
    obtain ⟨t, l, u⟩ := x
    obtain ⟨⟨h4, _⟩, _⟩ := h
    match t, h4 with
    | [a, b, c, d], _ => rfl) (fun x h => by
    obtain ⟨t, l, u⟩ := x
    obtain ⟨⟨h4, hb⟩, h5⟩ := h
    match t, h4, hb with
    | [a, b, c, d], _, hb => exact ⟨⟨u8_wf (hb a (by simp)), u8_wf (hb b (by simp)), u8_wf (hb c (by simp)), u8_wf (hb d (by simp))⟩, h5.1.1⟩)
theorem zFeatures : OpensZ Try.prog 25 1 (fun xs : List Feat => [.sl Feat inferInstance 5 fE xs]) (fun xs => xs.length ≤ 140737488351232 ∧ ∀ x ∈ xs, FeA x) := openZ_slice Try.underlying25 (by kernel_rfl) (by decide) (by decide +kernel) zFeature
theorem lwf {ls : List LkU} (h : ls.length ≤ 140737488351232 ∧ ∀ x ∈ ls, LkA x) : LWf ls where
  r := ⟨h.1, fun x hx => (h.2 x hx).2.2.1, fun x hx p hp => by
    obtain ⟨a, b, c⟩ := (h.2 x hx).2.2.2 p hp
    exact ⟨a.1, b.1, fun b hb => (c.2 b hb).2.1⟩⟩
  b := ⟨le63 h.1, fun x hx => le63 (h.2 x hx).2.1.1, fun x hx => (h.2 x hx).2.1.2, fun x hx => le63 (h.2 x hx).2.2.1, fun x hx p hp => le63 ((h.2 x hx).2.2.2 p hp).2.2.1⟩
  o := fun x hx p hp => by
    obtain ⟨a, b, c⟩ := (h.2 x hx).2.2.2 p hp
    exact ⟨⟨a.1, b.1, c.1, fun q hq => (c.2 q hq).2.1⟩, ⟨a.2, b.2, fun q hq => (c.2 q hq).1, fun q hq => (c.2 q hq).2.2⟩⟩
  w := fun x hx => (h.2 x hx).1
theorem fwf {fs : List Feat} (h : fs.length ≤ 140737488351232 ∧ ∀ x ∈ fs, FeA x) : FWf fs := ⟨h.1, h.2⟩
theorem gback_k (ls : List LkU) (fs : List Feat) (g : Int) (h1 : ls.length ≤ 140737488351232 ∧ ∀ x ∈ ls, LkA x) (h2 : fs.length ≤ 140737488351232 ∧ ∀ x ∈ fs, FeA x) (v0 v1 : Value) (w : World) (r0 : Rd w v0 4 luE ls) (r1 : Rd w v1 5 fE fs) :
    Calls Try.prog 5 #[v0, v1, .int .i64 g] w fun e w' => e = .returned (.bool true) ∧ Below w.heap.size w w' :=
  gback_c ls fs g (lwf h1) (fwf h2) v0 v1 w r0 r1
end Go.Proofs.Ytjflgkadagkllaa
