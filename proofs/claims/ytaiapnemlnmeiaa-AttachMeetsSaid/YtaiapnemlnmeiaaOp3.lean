/- A whole font, as the statements' readings give it. -/
import Derived.Test.YtaiapnemlnmeiaaT23
import Derived.Test.YtaiapnemlnmeiaaOp2
namespace Go.Proofs.Ytaiapnemlnmeiaa
open Go Go.Eng Go.RowKit

theorem mx {n : Nat} (h : n ≤ maxLen) : n ≤ 9223372036854775807 := by unfold maxLen at h; omega
theorem oU8 : Opens Try.prog 5 1 (fun n : Int => [.v (.int .u8 n)]) (fun n => (Lit.int .u8 n).wf = true) := opens_int Try.underlying5
theorem oU16 : Opens Try.prog 22 1 (fun n : Int => [.v (.int .u16 n)]) (fun n => (Lit.int .u16 n).wf = true) := opens_int Try.underlying22
theorem oI16 : Opens Try.prog 23 1 (fun n : Int => [.v (.int .i16 n)]) (fun n => (Lit.int .i16 n).wf = true) := opens_int Try.underlying23
theorem oI32 : Opens Try.prog 21 1 (fun n : Int => [.v (.int .i32 n)]) (fun n => (Lit.int .i32 n).wf = true) := opens_int Try.underlying21
theorem oI64 : Opens Try.prog 3 1 (fun n : Int => [.v (.int .i64 n)]) (fun n => (Lit.int .i64 n).wf = true) := opens_int Try.underlying3
theorem oPair : Opens Try.prog 140 2 paE (fun _ => True) :=
  Opens.map (opens_struct Try.underlying140 (by kernel_rfl) (opensF_cons rfl (by kernel_rfl) oU16 (opensF_cons rfl (by kernel_rfl) oU16 opensF_nil))) (fun x => (⟨x.1, x.2.1⟩ : Pair2)) (fun _ => rfl) (fun _ _ => trivial)
theorem oRec : Opens Try.prog 142 2 reE (fun _ => True) :=
  Opens.map (opens_struct Try.underlying142 (by kernel_rfl) (opensF_cons rfl (by kernel_rfl) oI64 (opensF_cons rfl (by kernel_rfl) oI64 opensF_nil))) (fun x => (⟨x.1, x.2.1⟩ : Pair2)) (fun _ => rfl) (fun _ _ => trivial)
theorem oMap : Opens Try.prog 138 2 mpE (fun _ => True) :=
  Opens.map (opens_struct Try.underlying138 (by kernel_rfl) (opensF_cons rfl (by kernel_rfl) oI32 (opensF_cons rfl (by kernel_rfl) oU16 opensF_nil))) (fun x => (⟨x.1, x.2.1⟩ : Pair2)) (fun _ => rfl) (fun _ _ => trivial)
theorem oMany : Opens Try.prog 107 2 myE (fun _ => True) :=
  Opens.map (opens_struct Try.underlying107 (by kernel_rfl) (opensF_cons rfl (by kernel_rfl) oU16 (opensF_cons rfl (by kernel_rfl) opWords opensF_nil))) (fun x => (⟨x.1, x.2.1⟩ : Many)) (fun _ => rfl) (fun _ _ => trivial)
theorem oLig : Opens Try.prog 109 2 liE (fun _ => True) :=
  Opens.map (opens_struct Try.underlying109 (by kernel_rfl) (opensF_cons rfl (by kernel_rfl) opWords (opensF_cons rfl (by kernel_rfl) oU16 opensF_nil))) (fun x => (⟨x.1, x.2.1⟩ : Lig)) (fun _ => rfl) (fun _ _ => trivial)
theorem oPairs : Opens Try.prog 92 1 (fun xs : List Pair2 => [.sl Pair2 inferInstance 2 paE xs]) (fun xs => xs.length ≤ maxLen ∧ ∀ x ∈ xs, True) := opens_slice Try.underlying92 (by kernel_rfl) (by decide) oPair
theorem oRecs : Opens Try.prog 96 1 (fun xs : List Pair2 => [.sl Pair2 inferInstance 2 reE xs]) (fun xs => xs.length ≤ maxLen ∧ ∀ x ∈ xs, True) := opens_slice Try.underlying96 (by kernel_rfl) (by decide) oRec
theorem oMaps : Opens Try.prog 26 1 (fun xs : List Pair2 => [.sl Pair2 inferInstance 2 mpE xs]) (fun xs => xs.length ≤ maxLen ∧ ∀ x ∈ xs, True) := opens_slice Try.underlying26 (by kernel_rfl) (by decide) oMap
theorem oManys : Opens Try.prog 93 1 (fun xs : List Many => [.sl Many inferInstance 2 myE xs]) (fun xs => xs.length ≤ maxLen ∧ ∀ x ∈ xs, True) := opens_slice Try.underlying93 (by kernel_rfl) (by decide) oMany
theorem oLigs : Opens Try.prog 94 1 (fun xs : List Lig => [.sl Lig inferInstance 2 liE xs]) (fun xs => xs.length ≤ maxLen ∧ ∀ x ∈ xs, True) := opens_slice Try.underlying94 (by kernel_rfl) (by decide) oLig
theorem oRows : Opens Try.prog 95 1 (fun xs : List (List Int) => [.sl (List Int) inferInstance 1 wsE xs]) (fun xs => xs.length ≤ maxLen ∧ ∀ x ∈ xs, x.length ≤ maxLen ∧ ∀ y ∈ x, (Lit.int .u16 y).wf = true) := opens_slice Try.underlying95 (by kernel_rfl) (by decide) opWords
theorem oSub : Opens Try.prog 98 7 suE SubB :=
  Opens.map (opens_struct Try.underlying98 (by kernel_rfl) (opensF_cons rfl (by kernel_rfl) oPairs (opensF_cons rfl (by kernel_rfl) oManys (opensF_cons rfl (by kernel_rfl) oLigs (opensF_cons rfl (by kernel_rfl) oRows (opensF_cons rfl (by kernel_rfl) oRows (opensF_cons rfl (by kernel_rfl) oRows (opensF_cons rfl (by kernel_rfl) oRecs opensF_nil))))))))
    (fun x => (⟨x.1, x.2.1, x.2.2.1, x.2.2.2.1, x.2.2.2.2.1, x.2.2.2.2.2.1, x.2.2.2.2.2.2.1⟩ : Sub)) (fun _ => rfl) (fun _ h => ⟨mx h.2.1.1, mx h.2.2.1.1, mx h.2.2.2.1.1, mx h.2.2.2.2.1.1, mx h.2.2.2.2.2.1.1⟩)
theorem oSubs : Opens Try.prog 54 1 (fun xs : List Sub => [.sl Sub inferInstance 7 suE xs]) (fun xs => xs.length ≤ maxLen ∧ ∀ x ∈ xs, SubB x) := opens_slice Try.underlying54 (by kernel_rfl) (by decide) oSub
def MarkA (m : Mark) : Prop := (0 ≤ m.c ∧ m.c ≤ 65535) ∧ (-32768 ≤ m.x ∧ m.x ≤ 32767) ∧ (-32768 ≤ m.y ∧ m.y ≤ 32767)
theorem oMark : Opens Try.prog 85 4 maE MarkA :=
  Opens.map (opens_struct Try.underlying85 (by kernel_rfl) (opensF_cons rfl (by kernel_rfl) oU16 (opensF_cons rfl (by kernel_rfl) oU16 (opensF_cons rfl (by kernel_rfl) oI16 (opensF_cons rfl (by kernel_rfl) oI16 opensF_nil))))) (fun x => (⟨x.1, x.2.1, x.2.2.1, x.2.2.2.1⟩ : Mark)) (fun _ => rfl) (fun _ h => ⟨u16_wf h.2.1, i16_wf h.2.2.1, i16_wf h.2.2.2.1⟩)
theorem oMarks : Opens Try.prog 49 1 (fun xs : List Mark => [.sl Mark inferInstance 4 maE xs]) (fun xs => xs.length ≤ maxLen ∧ ∀ x ∈ xs, MarkA x) := opens_slice Try.underlying49 (by kernel_rfl) (by decide) oMark
def AnchorA (a : Anchor) : Prop := (-32768 ≤ a.x ∧ a.x ≤ 32767) ∧ (-32768 ≤ a.y ∧ a.y ≤ 32767)
theorem oBool : Opens Try.prog 4 1 (fun b : Bool => [.v (.bool b)]) (fun _ => True) := opens_bool Try.underlying4
theorem oAnchor : Opens Try.prog 90 3 anE AnchorA :=
  Opens.map (opens_struct Try.underlying90 (by kernel_rfl) (opensF_cons rfl (by kernel_rfl) oBool (opensF_cons rfl (by kernel_rfl) oI16 (opensF_cons rfl (by kernel_rfl) oI16 opensF_nil)))) (fun x => (⟨x.1, x.2.1, x.2.2.1⟩ : Anchor)) (fun _ => rfl) (fun _ h => ⟨i16_wf h.2.1, i16_wf h.2.2.1⟩)
theorem oAnchors : Opens Try.prog 86 1 (fun xs : List Anchor => [.sl Anchor inferInstance 3 anE xs]) (fun xs => xs.length ≤ maxLen ∧ ∀ x ∈ xs, AnchorA x) := opens_slice Try.underlying86 (by kernel_rfl) (by decide) oAnchor
theorem oBase : Opens Try.prog 88 2 baE (fun b => ∀ a ∈ b.an, AnchorA a) :=
  Opens.map (opens_struct Try.underlying88 (by kernel_rfl) (opensF_cons rfl (by kernel_rfl) oU16 (opensF_cons rfl (by kernel_rfl) oAnchors opensF_nil))) (fun x => (⟨x.1, x.2.1⟩ : Base)) (fun _ => rfl) (fun _ h => h.2.1.2)
theorem oBases : Opens Try.prog 50 1 (fun xs : List Base => [.sl Base inferInstance 2 baE xs]) (fun xs => xs.length ≤ maxLen ∧ ∀ x ∈ xs, ∀ a ∈ x.an, AnchorA a) := opens_slice Try.underlying50 (by kernel_rfl) (by decide) oBase
structure PosA (s : Pos) : Prop where
  k : s.kerns.length ≤ 9223372036854775807
  m : s.marks.length ≤ 9223372036854775807
  b : s.bases.length ≤ 9223372036854775807
  kx : ∀ q ∈ s.kerns, -32768 ≤ q.x ∧ q.x ≤ 32767
  mq : ∀ q ∈ s.marks, MarkA q
  an : ∀ q ∈ s.bases, ∀ a ∈ q.an, AnchorA a
theorem oPos : Opens Try.prog 52 3 poE PosA :=
  Opens.map (opens_struct Try.underlying52 (by kernel_rfl) (opensF_cons rfl (by kernel_rfl) opKerns (opensF_cons rfl (by kernel_rfl) oMarks (opensF_cons rfl (by kernel_rfl) oBases opensF_nil)))) (fun x => (⟨x.1, x.2.1, x.2.2.1⟩ : Pos)) (fun _ => rfl) (fun _ h => ⟨mx h.1.1, mx h.2.1.1, mx h.2.2.1.1, h.1.2, h.2.1.2, h.2.2.1.2⟩)
theorem oPoss : Opens Try.prog 53 1 (fun xs : List Pos => [.sl Pos inferInstance 3 poE xs]) (fun xs => xs.length ≤ maxLen ∧ ∀ x ∈ xs, PosA x) := opens_slice Try.underlying53 (by kernel_rfl) (by decide) oPos
structure LkA (x : Lookup) : Prop where
  sl : x.subs.length ≤ 9223372036854775807
  s : ∀ s ∈ x.subs, SubB s
  pl : x.poss.length ≤ 9223372036854775807
  p : ∀ s ∈ x.poss, PosA s
theorem oLookup : Opens Try.prog 56 4 lkE LkA :=
  Opens.map (opens_struct Try.underlying56 (by kernel_rfl) (opensF_cons rfl (by kernel_rfl) oU16 (opensF_cons rfl (by kernel_rfl) oU16 (opensF_cons rfl (by kernel_rfl) oSubs (opensF_cons rfl (by kernel_rfl) oPoss opensF_nil))))) (fun x => (⟨x.1, x.2.1, x.2.2.1, x.2.2.2.1⟩ : Lookup)) (fun _ => rfl) (fun _ h => ⟨mx h.2.2.1.1, h.2.2.1.2, mx h.2.2.2.1.1, h.2.2.2.1.2⟩)
theorem oLookups : Opens Try.prog 27 1 (fun xs : List Lookup => [.sl Lookup inferInstance 4 lkE xs]) (fun xs => xs.length ≤ maxLen ∧ ∀ x ∈ xs, LkA x) := opens_slice Try.underlying27 (by kernel_rfl) (by decide) oLookup
theorem oTag : Opens Try.prog 58 (4 * 1) (fun xs : List Int => xs.flatMap bE) (fun xs => xs.length = 4 ∧ ∀ x ∈ xs, (Lit.int .u8 x).wf = true) := opens_array Try.underlying58 (by kernel_rfl) (by kernel_rfl) oU8
theorem oInts : Opens Try.prog 59 1 (fun xs : List Int => [.sl Int inferInstance 1 iE xs]) (fun xs => xs.length ≤ maxLen ∧ ∀ x ∈ xs, (Lit.int .i64 x).wf = true) := opens_slice Try.underlying59 (by kernel_rfl) (by decide) oI64
theorem oFeature : Opens Try.prog 61 5 feE (fun x => x.lks.length ≤ 9223372036854775807) :=
  Opens.map2 (opens_struct Try.underlying61 (by kernel_rfl) (opensF_cons rfl (by kernel_rfl) oTag (opensF_cons rfl (by kernel_rfl) oInts opensF_nil))) (fun x => (⟨nth x.1 0, nth x.1 1, nth x.1 2, nth x.1 3, x.2.1⟩ : Feature)) (fun x h => by
    obtain ⟨t, l, u⟩ := x
    obtain ⟨⟨h4, _⟩, _⟩ := h
    match t, h4 with
    | [a, b, c, d], _ => rfl) (fun _ h => mx h.2.1.1)
theorem oFeatures : Opens Try.prog 28 1 (fun xs : List Feature => [.sl Feature inferInstance 5 feE xs]) (fun xs => xs.length ≤ maxLen ∧ ∀ x ∈ xs, x.lks.length ≤ 9223372036854775807) := opens_slice Try.underlying28 (by kernel_rfl) (by decide) oFeature
theorem oBytes : Opens Try.prog 25 1 (fun xs : List Int => [.sl Int inferInstance 1 bE xs]) (fun xs => xs.length ≤ maxLen ∧ ∀ x ∈ xs, (Lit.int .u8 x).wf = true) := opens_slice Try.underlying25 (by kernel_rfl) (by decide) oU8
theorem fontR {f : Font} (ha : U16L f.adv) (hp : f.poss.length ≤ 9223372036854775807) (hl : ∀ x ∈ f.poss, LkA x) (hf : f.pfeats.length ≤ 9223372036854775807) (hk : ∀ x ∈ f.pfeats, x.lks.length ≤ 9223372036854775807) : FontR f where
  adv := ha
  fl := hf
  fk := hk
  ll := fun x hx => (hl x hx).pl
  ps := fun x hx s hs => ⟨((hl x hx).p s hs).k, ((hl x hx).p s hs).m, ((hl x hx).p s hs).b, fun m hm => (((hl x hx).p s hs).mq m hm).1⟩
  ks := fun x hx s hs => ⟨fun k hk => by have := ((hl x hx).p s hs).kx k hk; omega⟩
  pts := ⟨fun x hx s hs m hm => (((hl x hx).p s hs).mq m hm).2, fun x hx s hs m hm => (((hl x hx).p s hs).mq m hm).1.1, fun x hx s hs b hb a ha => ((hl x hx).p s hs).an b hb a ha⟩
  lks := ⟨hp, fun x hx => (hl x hx).sl, fun x hx => (hl x hx).s, fun x hx => (hl x hx).pl, fun x hx p hp => ((hl x hx).p p hp).b⟩
theorem oFont : Opens Try.prog 30 10 foD FontR :=
  Opens.map (opens_struct Try.underlying30 (by kernel_rfl) (opensF_cons rfl (by kernel_rfl) oU16 (opensF_cons rfl (by kernel_rfl) oI16 (opensF_cons rfl (by kernel_rfl) oI16 (opensF_cons rfl (by kernel_rfl) opWords (opensF_cons rfl (by kernel_rfl) oBytes (opensF_cons rfl (by kernel_rfl) oMaps (opensF_cons rfl (by kernel_rfl) oLookups (opensF_cons rfl (by kernel_rfl) oFeatures (opensF_cons rfl (by kernel_rfl) oLookups (opensF_cons rfl (by kernel_rfl) oFeatures opensF_nil)))))))))))
    (fun x => (⟨x.1, x.2.1, x.2.2.1, x.2.2.2.1, x.2.2.2.2.1, x.2.2.2.2.2.1, x.2.2.2.2.2.2.1, x.2.2.2.2.2.2.2.1, x.2.2.2.2.2.2.2.2.1, x.2.2.2.2.2.2.2.2.2.1⟩ : Font)) (fun _ => rfl)
    (fun _ h => fontR (fun y hy => u16_wf (h.2.2.2.1.2 y hy)) (mx h.2.2.2.2.2.2.2.2.1.1) h.2.2.2.2.2.2.2.2.1.2 (mx h.2.2.2.2.2.2.2.2.2.1.1) h.2.2.2.2.2.2.2.2.2.1.2)
end Go.Proofs.Ytaiapnemlnmeiaa
