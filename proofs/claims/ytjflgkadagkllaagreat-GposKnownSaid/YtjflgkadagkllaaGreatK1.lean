/- The example of the statements; words of literals. -/
import Derived.Test.YtjflgkadagkllaaGreatP12
import Derived.Test.YtjflgkadagkllaaGreatW6
set_option maxRecDepth 100000
set_option linter.unusedVariables false
namespace Go.Proofs.YtjflgkadagkllaaGreat
open Go Go.Eng Go.RowKit
def exP : PosU := ⟨[⟨5, 6, -50⟩, ⟨5, 7, 3⟩, ⟨6, 0, 32767⟩], [], []⟩
def exM : PosU := ⟨[], [⟨7, 0, 100, 200⟩, ⟨8, 1, -5, -32768⟩], [⟨3, [⟨true, 10, 20⟩, ⟨false, 0, 0⟩]⟩, ⟨4, [⟨false, 0, 0⟩, ⟨true, 0, 0⟩]⟩]⟩
def exL : List LkU := [⟨2, 0, [], [exP, exP]⟩, ⟨4, 2, [], [exM]⟩, ⟨6, 0, [], [exM]⟩]
def exF : List Feat := [⟨107, 101, 114, 110, [0]⟩, ⟨109, 97, 114, 107, [1, 2]⟩]
set_option maxHeartbeats 1000000 in
theorem example_c (w : World) (S : Nat -> Prop) (hS : ∀ b, S b -> b < w.heap.size) : Calls Tryz.prog 4 #[] w fun e w' =>
 ∃ us, e = .returned (.tuple us.toArray) /\ Below w.heap.size w w' /\ repYs (fun b => S b \/ (w.heap.size <= b /\ b < w'.heap.size)) w' [.sl LkU inferInstance 4 luE exL, .sl Feat inferInstance 5 fE exF] us := by
 refine calls_exec2 (cf := cf) cfok rfl rfl (fn := Tryz.f4) Tryz.func4 rfl [] [] (ρ := fun _ => undef) (· < w.heap.size) S rfl rfl rfl (by simp [svOkL]) rfl (memNil hS) (fun b hb => ⟨hb, rd_own rfl b⟩) ?_
 refine fun ρ S' w' hi => ⟨[den ρ (.sl 10), den ρ (.sl 13)], rfl, hi.below, ⟨?_, ?_, trivial⟩⟩
 · refine hi.to 40 (.sl 10) (.sl LkU inferInstance 4 luE exL) rfl ?_
   repeat (first | exact rfl | exact trivial | exact fun _ _ => rfl | refine aI ?_ ?_)
 · refine hi.to 40 (.sl 13) (.sl Feat inferInstance 5 fE exF) rfl ?_
   repeat (first | exact rfl | exact trivial | exact fun _ _ => rfl | refine aI ?_ ?_)
end Go.Proofs.YtjflgkadagkllaaGreat

/- The law GposKnown. -/
set_option maxRecDepth 100000
set_option linter.unusedVariables false
namespace Go.Proofs.YtjflgkadagkllaaGreat
open Go Go.Eng Go.RowKit
theorem Byt.set {l : List Int} (h : Byt l) (i : Nat) {x : Int} (hx : 0 <= x /\ x <= 255) : Byt (l.set i x) := by
 refine Byt.of fun y hy => ?_
 rcases List.mem_or_eq_of_mem_set hy with h1 | h1
 · obtain ⟨j, hj, rfl⟩ := mem_nth h1
   exact h j
 · rw [h1]; exact hx
theorem Byt.mid {l : List Int} (h : Byt l) (a b : Nat) : Byt (midL l a b) := by
 refine Byt.of fun y hy => ?_
 unfold midL at hy
 have := List.mem_of_mem_drop (List.mem_of_mem_take hy)
 obtain ⟨j, hj, rfl⟩ := mem_nth this
 exact h j
abbrev m18 : List Nat := [0, 1, 2, 3, 4, 5, 6, 7, 8, 9, 10, 11, 12, 13, 14, 15, 16, 17]
abbrev hd8 : List Int := [1, 0, 10, 10, 12, 0, 1, 4]
abbrev x0 : List Int := [2, 0, 1, 8, 1, 12, 4, 0, 1, 18, 1, 1, 5, 1, 6, 65486]
abbrev x1 : List Int := [2, 0, 1, 8, 1, 12, 4, 0, 1, 18, 1, 1, 5, 0, 6, 65486]
abbrev x2 : List Int := [2, 0, 1, 8, 1, 12, 4, 0, 1, 18, 1, 1, 5, 2, 6, 1, 6, 1]
abbrev x3 : List Int := [2, 0, 1, 8, 1, 12, 4, 0, 1, 18, 1, 1, 5, 2, 6, 1, 4, 1]
abbrev x4 : List Int := [2, 0, 1, 8, 1, 12, 5, 0, 1, 18, 1, 1, 5, 1, 6, 65486]
abbrev x5 : List Int := [2, 0, 1, 8, 1, 12, 4, 1, 1, 18, 1, 1, 5, 1, 6, 65486]
abbrev x6 : List Int := [2, 0, 1, 8, 2, 12, 4, 0, 1, 18, 1, 1, 5, 1, 6, 65486]
abbrev x7 : List Int := [2, 0, 1, 8, 1, 14, 4, 0, 2, 20, 20, 1, 1, 5, 1, 6, 65486]
abbrev x8 : List Int := [4, 0, 1, 8, 1, 12, 18, 1, 24, 36, 1, 1, 7, 1, 1, 3, 1, 0, 6, 1, 100, 200, 1, 4, 1, 10, 20]
abbrev x9 : List Int := [4, 0, 1, 8, 1, 12, 18, 1, 24, 36, 1, 1, 7, 1, 1, 3, 1, 1, 6, 1, 100, 200, 1, 4, 1, 10, 20]
abbrev x10 : List Int := [4, 0, 1, 8, 1, 12, 18, 0, 24, 36, 1, 1, 7, 1, 1, 3, 1, 0, 6, 1, 100, 200, 1]
abbrev x11 : List Int := [4, 0, 1, 8, 1, 12, 18, 1, 24, 36, 1, 1, 7, 1, 1, 3, 1, 0, 6, 2, 100, 200, 1, 4, 1, 10, 20]
abbrev x12 : List Int := [4, 0, 1, 8, 1, 12, 18, 1, 24, 36, 1, 1, 7, 1, 1, 3, 1, 0, 6, 1, 100, 200, 1, 0]
abbrev x13 : List Int := [4, 0, 1, 8, 1, 12, 18, 1, 24, 36, 1, 1, 7, 1, 1, 3, 1, 0, 6, 1, 100, 200, 2, 0, 0]
abbrev x14 : List Int := [3, 0, 1, 8, 1]
abbrev x15 : List Int := [1, 0, 1, 8, 1]
theorem byt2 (a b : List Int) : Byt ([] ++ wsB a ++ wsB b) := by
 rw [List.nil_append, <- wsB_app]
 exact wsB_byt _
theorem xor_u8 (a b : Int) : 0 <= bitsV .xor .u8 a b /\ bitsV .xor .u8 a b <= 255 := by
 unfold bitsV
 simp only [IntKind.wrap_u8]
 omega
theorem exA : ∀ x ∈ exL, ∀ p ∈ x.poss, p.kerns.length <= 100 /\ p.marks.length <= 100 /\ p.bases.length <= 100 /\ ∀ b ∈ p.bases, b.an.length <= 100 := by decide
theorem exB : ∀ x ∈ exL, ∀ p ∈ x.poss, ∀ k ∈ p.kerns, (0 <= k.a /\ k.a <= 65535) /\ (0 <= k.b /\ k.b <= 65535) /\ (-32768 <= k.x /\ k.x <= 32767) := by decide
theorem exC : ∀ x ∈ exL, ∀ p ∈ x.poss, ∀ m ∈ p.marks, (0 <= m.g /\ m.g <= 65535) /\ (0 <= m.c /\ m.c <= 65535) /\ (-32768 <= m.x /\ m.x <= 32767) /\ (-32768 <= m.y /\ m.y <= 32767) := by decide
theorem exD : ∀ x ∈ exL, ∀ p ∈ x.poss, ∀ b ∈ p.bases, (0 <= b.g /\ b.g <= 65535) /\ ∀ a ∈ b.an, (-32768 <= a.x /\ a.x <= 32767) /\ (-32768 <= a.y /\ a.y <= 32767) := by decide
theorem exE : ∀ x ∈ exL, x.subs = [] /\ x.poss.length <= 100 := by decide
theorem exOk : LWf exL where
 r := ⟨by decide, fun x hx => by have := (exE x hx).2; unfold rB; omega, fun x hx p hp => by
  obtain ⟨a, b, c, d⟩ := exA x hx p hp
  unfold rB
  exact ⟨by omega, by omega, fun q hq => by have := d q hq; omega⟩⟩
 b := ⟨by decide, fun x hx => by rw [(exE x hx).1]; decide, fun x hx s hs => (by rw [(exE x hx).1] at hs; cases hs), fun x hx => by have := (exE x hx).2; omega, fun x hx p hp => by have := (exA x hx p hp).2.2.1; omega⟩
 o := fun x hx p hp => by
  obtain ⟨a, b, c, d⟩ := exA x hx p hp
  exact ⟨⟨by omega, by omega, by omega, fun q hq => by have := d q hq; omega⟩, ⟨exB x hx p hp, exC x hx p hp, fun q hq => (exD x hx p hp q hq).1, fun q hq => (exD x hx p hp q hq).2⟩⟩
 w := by decide
theorem exFOk : FWf exF where
 n := by decide
 t := by
  have h : ∀ f ∈ exF, ((0 <= f.a /\ f.a <= 255) /\ (0 <= f.b /\ f.b <= 255) /\ (0 <= f.c /\ f.c <= 255) /\ (0 <= f.d /\ f.d <= 255)) /\ f.ks.length <= 100 := by decide
  intro f hf
  exact ⟨(h f hf).1, by have := (h f hf).2; omega⟩
theorem noL : LWf [] := ⟨⟨by decide, fun _ h => (by cases h), fun _ h => (by cases h)⟩, ⟨by decide, fun _ h => (by cases h), fun _ h => (by cases h), fun _ h => (by cases h), fun _ h => (by cases h)⟩, fun _ h => (by cases h), fun _ h => (by cases h)⟩
theorem noF : FWf [] := ⟨by decide, fun _ h => (by cases h)⟩
theorem exT : TOk exL where
 s := by decide
 p := fun x hx p hp => ⟨(exOk.o x hx p hp).2, by
  have h : ∀ x ∈ exL, ∀ p ∈ x.poss, p.marks.length <= 100 /\ p.bases.length <= 100 /\ p.kerns.length <= 100 /\ an0 p.bases <= 100 /\ (ansOf p.bases).length <= 100 := by decide
  obtain ⟨a, b, c, d, e⟩ := h x hx p hp
  exact ⟨by omega, by omega, by omega, by omega, by omega⟩, by
  have h : ∀ x ∈ exL, x.ty ≠ 2 -> ∀ p ∈ x.poss, p.bases ≠ [] /\ ∀ b ∈ p.bases, b.an.length = an0 p.bases := by decide
  exact fun h2 => h x hx h2 p hp⟩
 w := exOk.w
theorem exFo : ∀ f ∈ exF, FOk 3 f := by
 have h : ∀ f ∈ exF, ((0 <= f.a /\ f.a <= 255) /\ (0 <= f.b /\ f.b <= 255) /\ (0 <= f.c /\ f.c <= 255) /\ (0 <= f.d /\ f.d <= 255)) /\ (∀ x ∈ f.ks, 0 <= x /\ x < 3) /\ ∀ i, i < f.ks.length -> 0 < i -> nth f.ks (i - 1) < nth f.ks i := by decide
 intro f hf
 obtain ⟨⟨a, b, c, d⟩, e, g⟩ := h f hf
 exact ⟨a, b, c, d, e, fun i h0 hi => g i hi h0⟩
theorem exSz : (tableW (exL.map toLw) exF).length <= 1000 := by decide +kernel
set_option maxHeartbeats 4000000 in
theorem gknown_c (w : World) : Calls Tryz.prog 3 #[] w fun e w' => e = .returned (.bool true) /\ Below w.heap.size w w' := by
 refine calls_exec (cf := cf) cfok (fn := Tryz.f3) Tryz.func3 rfl [] [] (ρ := fun _ => undef) (· < w.heap.size) rfl rfl rfl (by simp [svOkL]) (memNil fun _ h => h) ?_
 refine Or.inr (lcall_reps [.sl LkU inferInstance 4 luE exL, .sl Feat inferInstance 5 fE exF] (fun ρ S w hm => example_c w S hm.lt) ?_)
 have htm := fun v0 v1 w r0 r1 => table_mk exL exF 3 exT exFo (by have := exSz; omega) v0 v1 w r0 r1
 have hB := wsB_byt (tableW (exL.map toLw) exF)
 have hl : (wsB (tableW (exL.map toLw) exF)).length <= 2000 := by rw [wsB_len]; have := exSz; omega
 generalize wsB (tableW (exL.map toLw) exF) = b at *
 refine Or.inr (lcall_fresh b (fun ρ S w hm => htm _ _ w (hm.rd 0 rfl rfl) (hm.rd 1 rfl rfl)) ?_)
 refine Or.inr (lcall_frzTo [(2, .rd Int inferInstance 1 bE b)] ⟨rfl, rfl, ?_⟩)
 refine lcall_rep1 (.v (.bool true)) (fun ρ S w hm => (gback_c exL exF 10 exOk exFOk _ _ w (hm.rd 0 rfl rfl) (hm.rd 1 rfl rfl)).mono fun e w' h => ⟨_, h.1, h.2, rfl⟩) ?_
 refine Or.inl ⟨.bool true, fun hg ρ S w hm => gback_c [] [] 0 noL noF _ _ w DRep.nil DRep.nil, ?_⟩
 refine Or.inl ⟨.bool true, fun hg ρ S w hm => gback_c exL exF 8 exOk exFOk _ _ w (hm.rd 0 rfl rfl) (hm.rd 1 rfl rfl), ?_⟩
 refine aI (fun h => by cases h) (fun _ => ?_)
 refine ⟨{ i : Nat // i <= b.length }, fun i => ⟨113, [⟨3, [], .sl 0⟩, ⟨4, [], .v (.int .i64 (i.1 : Nat))⟩], [.rd Int inferInstance 1 bE b], [], dropL nats 1⟩, fun i => b.length - i.1, ⟨[2], ⟨0, by omega⟩, ?_⟩, fun i => ?_⟩
 · exact aI (aI rfl (aI rfl trivial)) (aI rfl trivial)
 obtain ⟨i, hi⟩ := i
 refine aI (fun hlt => ?_) (fun hge => ?_)
 · have hlt : i < b.length := lt_of_dec hlt
   refine ⟨Int, inferInstance, bE, [], b, aI rfl (aI rfl (fun y hy => by simp at hy)), aI rfl (aI rfl (fun i _ => aI rfl rfl)), by show (0 + b.length) * 1 <= _; omega, ?_⟩
   refine ⟨{ z : Nat × List Int // z.1 <= 3 /\ Byt z.2 /\ z.2.length = b.length }, fun z => ⟨113, [⟨3, [], .sl 0⟩, ⟨4, [], .v (.int .i64 (i : Nat))⟩, ⟨5, [], .sl 1⟩, ⟨41, [], .sl 2⟩, ⟨42, [], .v (.int .i64 3)⟩, ⟨43, [], .v (.int .i64 (z.1.1 : Nat))⟩], [.rd Int inferInstance 1 bE b, ow5 z.1.2, .own 5 Int inferInstance 1 bE [1, 6, 128]], [], dropL nats 3⟩, fun z => 3 - z.1.1, ⟨[0, 2, 3], ⟨(0, b), by show 0 <= 3; omega, hB, rfl⟩, ?_⟩, fun z => ?_⟩
   · exact aI (aI rfl (aI rfl (aI rfl (aI rfl (aI rfl (aI rfl trivial)))))) (aI rfl (aI rfl (aI ⟨rfl, rfl, rfl, rfl, fun y hy => rfl⟩ trivial)))
   obtain ⟨⟨j, c⟩, hj, hc, hcl⟩ := z
   have hj : j <= 3 := hj
   have hc : Byt c := hc
   have hcl : c.length = b.length := hcl
   refine aI (fun hjl => ?_) (fun hjg => ?_)
   · have hjl : j < 3 := by
      have : (j : Int) < 3 := of_decide_eq_true hjl
      omega
     refine aI (show (0 : Int) <= (j : Int) /\ (j : Int) < 3 from ⟨by omega, by omega⟩) ?_
     refine aI (bnds hlt) ?_
     refine aI (show (0 : Int) <= (i : Int) /\ (i : Int) < (c.length : Int) from ⟨by omega, by omega⟩) ?_
     refine ⟨bitsV .xor .u8 (nth b i) (nth [1, 6, 128] j), rfl, rfl, ?_⟩
     have hc' : Byt (c.set i (bitsV .xor .u8 (nth b i) (nth [1, 6, 128] j))) := hc.set i (xor_u8 _ _)
     refine Or.inl ⟨.bool true, fun ρ S w hm => gparses_c _ 10 hc' _ w (hm.own 1 rfl rfl), ?_⟩
     refine Or.inl ⟨.bool true, fun hg ρ S w hm => gright_c _ 10 hc' _ w (hm.own 1 rfl rfl), ?_⟩
     refine aI (fun h => by cases h) (fun _ => ?_)
     exact ⟨[0, 1, 2], ⟨(j + 1, c.set i (bitsV .xor .u8 (nth b i) (nth [1, 6, 128] j))), by show j + 1 <= 3; omega, hc', by show (c.set i _).length = _; rw [List.length_set]; exact hcl⟩, aI (aI rfl (aI rfl (aI rfl (aI rfl (aI rfl (aI (svI (i64_succ j (by omega))) trivial)))))) (aI rfl (aI rfl (aI rfl trivial))), by show 3 - (j + 1) < 3 - j; omega⟩
   refine aI ⟨by omega, by omega, by omega⟩ ?_
   refine Or.inl ⟨.bool true, fun ρ S w hm => gparses_c _ 10 (Byt.mid hB _ _) _ w (hm.rd 3 rfl rfl), ?_⟩
   refine Or.inl ⟨.bool true, fun hg ρ S w hm => gparses_c b (i : Int) hB _ w (hm.rd 0 rfl rfl), ?_⟩
   refine aI (fun h => by cases h) (fun _ => ?_)
   exact ⟨[0], ⟨i + 1, hlt⟩, aI (aI rfl (aI (svI (i64_succ i (by omega))) trivial)) (aI rfl trivial), by show b.length - (i + 1) < b.length - i; omega⟩
 refine Or.inr (lcall_fresh (wsB [1, 0, 10, 10, 12, 0, 1, 4]) (fun ρ S w hm => words_o [1, 0, 10, 10, 12, 0, 1, 4] _ rfl (by decide) _ w (hm.raw 1 rfl rfl [1, 0, 10, 10, 12, 0, 1, 4] _ rfl rfl rfl (fun y hy => rfl))) ?_)
 refine ⟨{ k : Nat // k <= 16 }, fun k => ⟨113, [⟨8, [], .sl 0⟩, ⟨94, [], .sl 17⟩, ⟨95, [], .v (.int .i64 16)⟩, ⟨96, [], .v (.int .i64 (k.1 : Nat))⟩], [ow5 (wsB [1, 0, 10, 10, 12, 0, 1, 4]), .raw 3 16 1 [.v (.int .i64 2), .v (.int .i64 0), .v (.int .i64 1), .v (.int .i64 8), .v (.int .i64 1), .v (.int .i64 12), .v (.int .i64 4), .v (.int .i64 0), .v (.int .i64 1), .v (.int .i64 18), .v (.int .i64 1), .v (.int .i64 1), .v (.int .i64 5), .v (.int .i64 1), .v (.int .i64 6), .v (.int .i64 65486)], .raw 3 16 1 [.v (.int .i64 2), .v (.int .i64 0), .v (.int .i64 1), .v (.int .i64 8), .v (.int .i64 1), .v (.int .i64 12), .v (.int .i64 4), .v (.int .i64 0), .v (.int .i64 1), .v (.int .i64 18), .v (.int .i64 1), .v (.int .i64 1), .v (.int .i64 5), .v (.int .i64 0), .v (.int .i64 6), .v (.int .i64 65486)], .raw 3 18 1 [.v (.int .i64 2), .v (.int .i64 0), .v (.int .i64 1), .v (.int .i64 8), .v (.int .i64 1), .v (.int .i64 12), .v (.int .i64 4), .v (.int .i64 0), .v (.int .i64 1), .v (.int .i64 18), .v (.int .i64 1), .v (.int .i64 1), .v (.int .i64 5), .v (.int .i64 2), .v (.int .i64 6), .v (.int .i64 1), .v (.int .i64 6), .v (.int .i64 1)], .raw 3 18 1 [.v (.int .i64 2), .v (.int .i64 0), .v (.int .i64 1), .v (.int .i64 8), .v (.int .i64 1), .v (.int .i64 12), .v (.int .i64 4), .v (.int .i64 0), .v (.int .i64 1), .v (.int .i64 18), .v (.int .i64 1), .v (.int .i64 1), .v (.int .i64 5), .v (.int .i64 2), .v (.int .i64 6), .v (.int .i64 1), .v (.int .i64 4), .v (.int .i64 1)], .raw 3 16 1 [.v (.int .i64 2), .v (.int .i64 0), .v (.int .i64 1), .v (.int .i64 8), .v (.int .i64 1), .v (.int .i64 12), .v (.int .i64 5), .v (.int .i64 0), .v (.int .i64 1), .v (.int .i64 18), .v (.int .i64 1), .v (.int .i64 1), .v (.int .i64 5), .v (.int .i64 1), .v (.int .i64 6), .v (.int .i64 65486)], .raw 3 16 1 [.v (.int .i64 2), .v (.int .i64 0), .v (.int .i64 1), .v (.int .i64 8), .v (.int .i64 1), .v (.int .i64 12), .v (.int .i64 4), .v (.int .i64 1), .v (.int .i64 1), .v (.int .i64 18), .v (.int .i64 1), .v (.int .i64 1), .v (.int .i64 5), .v (.int .i64 1), .v (.int .i64 6), .v (.int .i64 65486)], .raw 3 16 1 [.v (.int .i64 2), .v (.int .i64 0), .v (.int .i64 1), .v (.int .i64 8), .v (.int .i64 2), .v (.int .i64 12), .v (.int .i64 4), .v (.int .i64 0), .v (.int .i64 1), .v (.int .i64 18), .v (.int .i64 1), .v (.int .i64 1), .v (.int .i64 5), .v (.int .i64 1), .v (.int .i64 6), .v (.int .i64 65486)], .raw 3 17 1 [.v (.int .i64 2), .v (.int .i64 0), .v (.int .i64 1), .v (.int .i64 8), .v (.int .i64 1), .v (.int .i64 14), .v (.int .i64 4), .v (.int .i64 0), .v (.int .i64 2), .v (.int .i64 20), .v (.int .i64 20), .v (.int .i64 1), .v (.int .i64 1), .v (.int .i64 5), .v (.int .i64 1), .v (.int .i64 6), .v (.int .i64 65486)], .raw 3 27 1 [.v (.int .i64 4), .v (.int .i64 0), .v (.int .i64 1), .v (.int .i64 8), .v (.int .i64 1), .v (.int .i64 12), .v (.int .i64 18), .v (.int .i64 1), .v (.int .i64 24), .v (.int .i64 36), .v (.int .i64 1), .v (.int .i64 1), .v (.int .i64 7), .v (.int .i64 1), .v (.int .i64 1), .v (.int .i64 3), .v (.int .i64 1), .v (.int .i64 0), .v (.int .i64 6), .v (.int .i64 1), .v (.int .i64 100), .v (.int .i64 200), .v (.int .i64 1), .v (.int .i64 4), .v (.int .i64 1), .v (.int .i64 10), .v (.int .i64 20)], .raw 3 27 1 [.v (.int .i64 4), .v (.int .i64 0), .v (.int .i64 1), .v (.int .i64 8), .v (.int .i64 1), .v (.int .i64 12), .v (.int .i64 18), .v (.int .i64 1), .v (.int .i64 24), .v (.int .i64 36), .v (.int .i64 1), .v (.int .i64 1), .v (.int .i64 7), .v (.int .i64 1), .v (.int .i64 1), .v (.int .i64 3), .v (.int .i64 1), .v (.int .i64 1), .v (.int .i64 6), .v (.int .i64 1), .v (.int .i64 100), .v (.int .i64 200), .v (.int .i64 1), .v (.int .i64 4), .v (.int .i64 1), .v (.int .i64 10), .v (.int .i64 20)], .raw 3 23 1 [.v (.int .i64 4), .v (.int .i64 0), .v (.int .i64 1), .v (.int .i64 8), .v (.int .i64 1), .v (.int .i64 12), .v (.int .i64 18), .v (.int .i64 0), .v (.int .i64 24), .v (.int .i64 36), .v (.int .i64 1), .v (.int .i64 1), .v (.int .i64 7), .v (.int .i64 1), .v (.int .i64 1), .v (.int .i64 3), .v (.int .i64 1), .v (.int .i64 0), .v (.int .i64 6), .v (.int .i64 1), .v (.int .i64 100), .v (.int .i64 200), .v (.int .i64 1)], .raw 3 27 1 [.v (.int .i64 4), .v (.int .i64 0), .v (.int .i64 1), .v (.int .i64 8), .v (.int .i64 1), .v (.int .i64 12), .v (.int .i64 18), .v (.int .i64 1), .v (.int .i64 24), .v (.int .i64 36), .v (.int .i64 1), .v (.int .i64 1), .v (.int .i64 7), .v (.int .i64 1), .v (.int .i64 1), .v (.int .i64 3), .v (.int .i64 1), .v (.int .i64 0), .v (.int .i64 6), .v (.int .i64 2), .v (.int .i64 100), .v (.int .i64 200), .v (.int .i64 1), .v (.int .i64 4), .v (.int .i64 1), .v (.int .i64 10), .v (.int .i64 20)], .raw 3 24 1 [.v (.int .i64 4), .v (.int .i64 0), .v (.int .i64 1), .v (.int .i64 8), .v (.int .i64 1), .v (.int .i64 12), .v (.int .i64 18), .v (.int .i64 1), .v (.int .i64 24), .v (.int .i64 36), .v (.int .i64 1), .v (.int .i64 1), .v (.int .i64 7), .v (.int .i64 1), .v (.int .i64 1), .v (.int .i64 3), .v (.int .i64 1), .v (.int .i64 0), .v (.int .i64 6), .v (.int .i64 1), .v (.int .i64 100), .v (.int .i64 200), .v (.int .i64 1), .v (.int .i64 0)], .raw 3 25 1 [.v (.int .i64 4), .v (.int .i64 0), .v (.int .i64 1), .v (.int .i64 8), .v (.int .i64 1), .v (.int .i64 12), .v (.int .i64 18), .v (.int .i64 1), .v (.int .i64 24), .v (.int .i64 36), .v (.int .i64 1), .v (.int .i64 1), .v (.int .i64 7), .v (.int .i64 1), .v (.int .i64 1), .v (.int .i64 3), .v (.int .i64 1), .v (.int .i64 0), .v (.int .i64 6), .v (.int .i64 1), .v (.int .i64 100), .v (.int .i64 200), .v (.int .i64 2), .v (.int .i64 0), .v (.int .i64 0)], .raw 3 5 1 [.v (.int .i64 3), .v (.int .i64 0), .v (.int .i64 1), .v (.int .i64 8), .v (.int .i64 1)], .raw 3 5 1 [.v (.int .i64 1), .v (.int .i64 0), .v (.int .i64 1), .v (.int .i64 8), .v (.int .i64 1)], .raw 31 16 1 [.sl 1, .sl 2, .sl 3, .sl 4, .sl 5, .sl 6, .sl 7, .sl 8, .sl 9, .sl 10, .sl 11, .sl 12, .sl 13, .sl 14, .sl 15, .sl 16]], [], dropL nats 18⟩, fun k => 16 - k.1, ⟨[2, 3, 4, 5, 6, 7, 8, 9, 10, 11, 12, 13, 14, 15, 16, 17, 18, 19], ⟨0, by omega⟩, ?_⟩, fun k => ?_⟩
 · exact aI (aI rfl (aI rfl (aI rfl (aI rfl trivial)))) (aI rfl (aI ⟨rfl, rfl, rfl, rfl⟩ (aI ⟨rfl, rfl, rfl, rfl⟩ (aI ⟨rfl, rfl, rfl, rfl⟩ (aI ⟨rfl, rfl, rfl, rfl⟩ (aI ⟨rfl, rfl, rfl, rfl⟩ (aI ⟨rfl, rfl, rfl, rfl⟩ (aI ⟨rfl, rfl, rfl, rfl⟩ (aI ⟨rfl, rfl, rfl, rfl⟩ (aI ⟨rfl, rfl, rfl, rfl⟩ (aI ⟨rfl, rfl, rfl, rfl⟩ (aI ⟨rfl, rfl, rfl, rfl⟩ (aI ⟨rfl, rfl, rfl, rfl⟩ (aI ⟨rfl, rfl, rfl, rfl⟩ (aI ⟨rfl, rfl, rfl, rfl⟩ (aI ⟨rfl, rfl, rfl, rfl⟩ (aI ⟨rfl, rfl, rfl, rfl⟩ (aI ⟨rfl, rfl, rfl, rfl⟩ trivial))))))))))))))))))
 obtain ⟨k, hk⟩ := k
 refine aI (fun hkl => ?_) (fun hkg => ?_)
 · have hkl : k < 16 := by
    have : (k : Int) < 16 := of_decide_eq_true hkl
    omega
   obtain rfl | rfl | rfl | rfl | rfl | rfl | rfl | rfl | rfl | rfl | rfl | rfl | rfl | rfl | rfl | rfl : k = 0 \/ k = 1 \/ k = 2 \/ k = 3 \/ k = 4 \/ k = 5 \/ k = 6 \/ k = 7 \/ k = 8 \/ k = 9 \/ k = 10 \/ k = 11 \/ k = 12 \/ k = 13 \/ k = 14 \/ k = 15 := by omega
   · refine aI (show (0 : Int) <= ((0 : Nat) : Int) /\ ((0 : Nat) : Int) < 16 by decide) ?_
     refine ⟨Int, inferInstance, bE, [], wsB hd8, aI rfl (aI rfl (fun y hy => by simp at hy)), ⟨rfl, rfl, fun _ _ => ⟨rfl, rfl⟩⟩, by decide +kernel, ?_⟩
     refine Or.inr (lcall_fresh (wsB x0) (fun ρ S w hm => words_o x0 _ rfl (by decide) _ w (hm.raw 1 rfl rfl x0 _ rfl rfl rfl (fun y hy => rfl))) ?_)
     refine ⟨wsB x0, ⟨rfl, rfl, fun _ _ => ⟨rfl, rfl⟩⟩, by decide +kernel, ?_⟩
     refine Or.inl ⟨.bool true, fun ρ S w hm => gparses_c _ 10 (byt2 _ _) _ w (hm.own 21 rfl rfl), ?_⟩
     refine aI (fun h => by cases h) (fun _ => ?_)
     exact ⟨m18, ⟨1, by omega⟩, aI (aI rfl (aI rfl (aI rfl (aI rfl trivial)))) (by refine aI rfl ?_; repeat (first | exact trivial | refine aI ⟨rfl, rfl, rfl, rfl⟩ ?_)), by show 16 - 1 < 16 - 0; omega⟩
   · refine aI (show (0 : Int) <= ((1 : Nat) : Int) /\ ((1 : Nat) : Int) < 16 by decide) ?_
     refine ⟨Int, inferInstance, bE, [], wsB hd8, aI rfl (aI rfl (fun y hy => by simp at hy)), ⟨rfl, rfl, fun _ _ => ⟨rfl, rfl⟩⟩, by decide +kernel, ?_⟩
     refine Or.inr (lcall_fresh (wsB x1) (fun ρ S w hm => words_o x1 _ rfl (by decide) _ w (hm.raw 2 rfl rfl x1 _ rfl rfl rfl (fun y hy => rfl))) ?_)
     refine ⟨wsB x1, ⟨rfl, rfl, fun _ _ => ⟨rfl, rfl⟩⟩, by decide +kernel, ?_⟩
     refine Or.inl ⟨.bool true, fun ρ S w hm => gparses_c _ 10 (byt2 _ _) _ w (hm.own 21 rfl rfl), ?_⟩
     refine aI (fun h => by cases h) (fun _ => ?_)
     exact ⟨m18, ⟨2, by omega⟩, aI (aI rfl (aI rfl (aI rfl (aI rfl trivial)))) (by refine aI rfl ?_; repeat (first | exact trivial | refine aI ⟨rfl, rfl, rfl, rfl⟩ ?_)), by show 16 - 2 < 16 - 1; omega⟩
   · refine aI (show (0 : Int) <= ((2 : Nat) : Int) /\ ((2 : Nat) : Int) < 16 by decide) ?_
     refine ⟨Int, inferInstance, bE, [], wsB hd8, aI rfl (aI rfl (fun y hy => by simp at hy)), ⟨rfl, rfl, fun _ _ => ⟨rfl, rfl⟩⟩, by decide +kernel, ?_⟩
     refine Or.inr (lcall_fresh (wsB x2) (fun ρ S w hm => words_o x2 _ rfl (by decide) _ w (hm.raw 3 rfl rfl x2 _ rfl rfl rfl (fun y hy => rfl))) ?_)
     refine ⟨wsB x2, ⟨rfl, rfl, fun _ _ => ⟨rfl, rfl⟩⟩, by decide +kernel, ?_⟩
     refine Or.inl ⟨.bool true, fun ρ S w hm => gparses_c _ 10 (byt2 _ _) _ w (hm.own 21 rfl rfl), ?_⟩
     refine aI (fun h => by cases h) (fun _ => ?_)
     exact ⟨m18, ⟨3, by omega⟩, aI (aI rfl (aI rfl (aI rfl (aI rfl trivial)))) (by refine aI rfl ?_; repeat (first | exact trivial | refine aI ⟨rfl, rfl, rfl, rfl⟩ ?_)), by show 16 - 3 < 16 - 2; omega⟩
   · refine aI (show (0 : Int) <= ((3 : Nat) : Int) /\ ((3 : Nat) : Int) < 16 by decide) ?_
     refine ⟨Int, inferInstance, bE, [], wsB hd8, aI rfl (aI rfl (fun y hy => by simp at hy)), ⟨rfl, rfl, fun _ _ => ⟨rfl, rfl⟩⟩, by decide +kernel, ?_⟩
     refine Or.inr (lcall_fresh (wsB x3) (fun ρ S w hm => words_o x3 _ rfl (by decide) _ w (hm.raw 4 rfl rfl x3 _ rfl rfl rfl (fun y hy => rfl))) ?_)
     refine ⟨wsB x3, ⟨rfl, rfl, fun _ _ => ⟨rfl, rfl⟩⟩, by decide +kernel, ?_⟩
     refine Or.inl ⟨.bool true, fun ρ S w hm => gparses_c _ 10 (byt2 _ _) _ w (hm.own 21 rfl rfl), ?_⟩
     refine aI (fun h => by cases h) (fun _ => ?_)
     exact ⟨m18, ⟨4, by omega⟩, aI (aI rfl (aI rfl (aI rfl (aI rfl trivial)))) (by refine aI rfl ?_; repeat (first | exact trivial | refine aI ⟨rfl, rfl, rfl, rfl⟩ ?_)), by show 16 - 4 < 16 - 3; omega⟩
   · refine aI (show (0 : Int) <= ((4 : Nat) : Int) /\ ((4 : Nat) : Int) < 16 by decide) ?_
     refine ⟨Int, inferInstance, bE, [], wsB hd8, aI rfl (aI rfl (fun y hy => by simp at hy)), ⟨rfl, rfl, fun _ _ => ⟨rfl, rfl⟩⟩, by decide +kernel, ?_⟩
     refine Or.inr (lcall_fresh (wsB x4) (fun ρ S w hm => words_o x4 _ rfl (by decide) _ w (hm.raw 5 rfl rfl x4 _ rfl rfl rfl (fun y hy => rfl))) ?_)
     refine ⟨wsB x4, ⟨rfl, rfl, fun _ _ => ⟨rfl, rfl⟩⟩, by decide +kernel, ?_⟩
     refine Or.inl ⟨.bool true, fun ρ S w hm => gparses_c _ 10 (byt2 _ _) _ w (hm.own 21 rfl rfl), ?_⟩
     refine aI (fun h => by cases h) (fun _ => ?_)
     exact ⟨m18, ⟨5, by omega⟩, aI (aI rfl (aI rfl (aI rfl (aI rfl trivial)))) (by refine aI rfl ?_; repeat (first | exact trivial | refine aI ⟨rfl, rfl, rfl, rfl⟩ ?_)), by show 16 - 5 < 16 - 4; omega⟩
   · refine aI (show (0 : Int) <= ((5 : Nat) : Int) /\ ((5 : Nat) : Int) < 16 by decide) ?_
     refine ⟨Int, inferInstance, bE, [], wsB hd8, aI rfl (aI rfl (fun y hy => by simp at hy)), ⟨rfl, rfl, fun _ _ => ⟨rfl, rfl⟩⟩, by decide +kernel, ?_⟩
     refine Or.inr (lcall_fresh (wsB x5) (fun ρ S w hm => words_o x5 _ rfl (by decide) _ w (hm.raw 6 rfl rfl x5 _ rfl rfl rfl (fun y hy => rfl))) ?_)
     refine ⟨wsB x5, ⟨rfl, rfl, fun _ _ => ⟨rfl, rfl⟩⟩, by decide +kernel, ?_⟩
     refine Or.inl ⟨.bool true, fun ρ S w hm => gparses_c _ 10 (byt2 _ _) _ w (hm.own 21 rfl rfl), ?_⟩
     refine aI (fun h => by cases h) (fun _ => ?_)
     exact ⟨m18, ⟨6, by omega⟩, aI (aI rfl (aI rfl (aI rfl (aI rfl trivial)))) (by refine aI rfl ?_; repeat (first | exact trivial | refine aI ⟨rfl, rfl, rfl, rfl⟩ ?_)), by show 16 - 6 < 16 - 5; omega⟩
   · refine aI (show (0 : Int) <= ((6 : Nat) : Int) /\ ((6 : Nat) : Int) < 16 by decide) ?_
     refine ⟨Int, inferInstance, bE, [], wsB hd8, aI rfl (aI rfl (fun y hy => by simp at hy)), ⟨rfl, rfl, fun _ _ => ⟨rfl, rfl⟩⟩, by decide +kernel, ?_⟩
     refine Or.inr (lcall_fresh (wsB x6) (fun ρ S w hm => words_o x6 _ rfl (by decide) _ w (hm.raw 7 rfl rfl x6 _ rfl rfl rfl (fun y hy => rfl))) ?_)
     refine ⟨wsB x6, ⟨rfl, rfl, fun _ _ => ⟨rfl, rfl⟩⟩, by decide +kernel, ?_⟩
     refine Or.inl ⟨.bool true, fun ρ S w hm => gparses_c _ 10 (byt2 _ _) _ w (hm.own 21 rfl rfl), ?_⟩
     refine aI (fun h => by cases h) (fun _ => ?_)
     exact ⟨m18, ⟨7, by omega⟩, aI (aI rfl (aI rfl (aI rfl (aI rfl trivial)))) (by refine aI rfl ?_; repeat (first | exact trivial | refine aI ⟨rfl, rfl, rfl, rfl⟩ ?_)), by show 16 - 7 < 16 - 6; omega⟩
   · refine aI (show (0 : Int) <= ((7 : Nat) : Int) /\ ((7 : Nat) : Int) < 16 by decide) ?_
     refine ⟨Int, inferInstance, bE, [], wsB hd8, aI rfl (aI rfl (fun y hy => by simp at hy)), ⟨rfl, rfl, fun _ _ => ⟨rfl, rfl⟩⟩, by decide +kernel, ?_⟩
     refine Or.inr (lcall_fresh (wsB x7) (fun ρ S w hm => words_o x7 _ rfl (by decide) _ w (hm.raw 8 rfl rfl x7 _ rfl rfl rfl (fun y hy => rfl))) ?_)
     refine ⟨wsB x7, ⟨rfl, rfl, fun _ _ => ⟨rfl, rfl⟩⟩, by decide +kernel, ?_⟩
     refine Or.inl ⟨.bool true, fun ρ S w hm => gparses_c _ 10 (byt2 _ _) _ w (hm.own 21 rfl rfl), ?_⟩
     refine aI (fun h => by cases h) (fun _ => ?_)
     exact ⟨m18, ⟨8, by omega⟩, aI (aI rfl (aI rfl (aI rfl (aI rfl trivial)))) (by refine aI rfl ?_; repeat (first | exact trivial | refine aI ⟨rfl, rfl, rfl, rfl⟩ ?_)), by show 16 - 8 < 16 - 7; omega⟩
   · refine aI (show (0 : Int) <= ((8 : Nat) : Int) /\ ((8 : Nat) : Int) < 16 by decide) ?_
     refine ⟨Int, inferInstance, bE, [], wsB hd8, aI rfl (aI rfl (fun y hy => by simp at hy)), ⟨rfl, rfl, fun _ _ => ⟨rfl, rfl⟩⟩, by decide +kernel, ?_⟩
     refine Or.inr (lcall_fresh (wsB x8) (fun ρ S w hm => words_o x8 _ rfl (by decide) _ w (hm.raw 9 rfl rfl x8 _ rfl rfl rfl (fun y hy => rfl))) ?_)
     refine ⟨wsB x8, ⟨rfl, rfl, fun _ _ => ⟨rfl, rfl⟩⟩, by decide +kernel, ?_⟩
     refine Or.inl ⟨.bool true, fun ρ S w hm => gparses_c _ 10 (byt2 _ _) _ w (hm.own 21 rfl rfl), ?_⟩
     refine aI (fun h => by cases h) (fun _ => ?_)
     exact ⟨m18, ⟨9, by omega⟩, aI (aI rfl (aI rfl (aI rfl (aI rfl trivial)))) (by refine aI rfl ?_; repeat (first | exact trivial | refine aI ⟨rfl, rfl, rfl, rfl⟩ ?_)), by show 16 - 9 < 16 - 8; omega⟩
   · refine aI (show (0 : Int) <= ((9 : Nat) : Int) /\ ((9 : Nat) : Int) < 16 by decide) ?_
     refine ⟨Int, inferInstance, bE, [], wsB hd8, aI rfl (aI rfl (fun y hy => by simp at hy)), ⟨rfl, rfl, fun _ _ => ⟨rfl, rfl⟩⟩, by decide +kernel, ?_⟩
     refine Or.inr (lcall_fresh (wsB x9) (fun ρ S w hm => words_o x9 _ rfl (by decide) _ w (hm.raw 10 rfl rfl x9 _ rfl rfl rfl (fun y hy => rfl))) ?_)
     refine ⟨wsB x9, ⟨rfl, rfl, fun _ _ => ⟨rfl, rfl⟩⟩, by decide +kernel, ?_⟩
     refine Or.inl ⟨.bool true, fun ρ S w hm => gparses_c _ 10 (byt2 _ _) _ w (hm.own 21 rfl rfl), ?_⟩
     refine aI (fun h => by cases h) (fun _ => ?_)
     exact ⟨m18, ⟨10, by omega⟩, aI (aI rfl (aI rfl (aI rfl (aI rfl trivial)))) (by refine aI rfl ?_; repeat (first | exact trivial | refine aI ⟨rfl, rfl, rfl, rfl⟩ ?_)), by show 16 - 10 < 16 - 9; omega⟩
   · refine aI (show (0 : Int) <= ((10 : Nat) : Int) /\ ((10 : Nat) : Int) < 16 by decide) ?_
     refine ⟨Int, inferInstance, bE, [], wsB hd8, aI rfl (aI rfl (fun y hy => by simp at hy)), ⟨rfl, rfl, fun _ _ => ⟨rfl, rfl⟩⟩, by decide +kernel, ?_⟩
     refine Or.inr (lcall_fresh (wsB x10) (fun ρ S w hm => words_o x10 _ rfl (by decide) _ w (hm.raw 11 rfl rfl x10 _ rfl rfl rfl (fun y hy => rfl))) ?_)
     refine ⟨wsB x10, ⟨rfl, rfl, fun _ _ => ⟨rfl, rfl⟩⟩, by decide +kernel, ?_⟩
     refine Or.inl ⟨.bool true, fun ρ S w hm => gparses_c _ 10 (byt2 _ _) _ w (hm.own 21 rfl rfl), ?_⟩
     refine aI (fun h => by cases h) (fun _ => ?_)
     exact ⟨m18, ⟨11, by omega⟩, aI (aI rfl (aI rfl (aI rfl (aI rfl trivial)))) (by refine aI rfl ?_; repeat (first | exact trivial | refine aI ⟨rfl, rfl, rfl, rfl⟩ ?_)), by show 16 - 11 < 16 - 10; omega⟩
   · refine aI (show (0 : Int) <= ((11 : Nat) : Int) /\ ((11 : Nat) : Int) < 16 by decide) ?_
     refine ⟨Int, inferInstance, bE, [], wsB hd8, aI rfl (aI rfl (fun y hy => by simp at hy)), ⟨rfl, rfl, fun _ _ => ⟨rfl, rfl⟩⟩, by decide +kernel, ?_⟩
     refine Or.inr (lcall_fresh (wsB x11) (fun ρ S w hm => words_o x11 _ rfl (by decide) _ w (hm.raw 12 rfl rfl x11 _ rfl rfl rfl (fun y hy => rfl))) ?_)
     refine ⟨wsB x11, ⟨rfl, rfl, fun _ _ => ⟨rfl, rfl⟩⟩, by decide +kernel, ?_⟩
     refine Or.inl ⟨.bool true, fun ρ S w hm => gparses_c _ 10 (byt2 _ _) _ w (hm.own 21 rfl rfl), ?_⟩
     refine aI (fun h => by cases h) (fun _ => ?_)
     exact ⟨m18, ⟨12, by omega⟩, aI (aI rfl (aI rfl (aI rfl (aI rfl trivial)))) (by refine aI rfl ?_; repeat (first | exact trivial | refine aI ⟨rfl, rfl, rfl, rfl⟩ ?_)), by show 16 - 12 < 16 - 11; omega⟩
   · refine aI (show (0 : Int) <= ((12 : Nat) : Int) /\ ((12 : Nat) : Int) < 16 by decide) ?_
     refine ⟨Int, inferInstance, bE, [], wsB hd8, aI rfl (aI rfl (fun y hy => by simp at hy)), ⟨rfl, rfl, fun _ _ => ⟨rfl, rfl⟩⟩, by decide +kernel, ?_⟩
     refine Or.inr (lcall_fresh (wsB x12) (fun ρ S w hm => words_o x12 _ rfl (by decide) _ w (hm.raw 13 rfl rfl x12 _ rfl rfl rfl (fun y hy => rfl))) ?_)
     refine ⟨wsB x12, ⟨rfl, rfl, fun _ _ => ⟨rfl, rfl⟩⟩, by decide +kernel, ?_⟩
     refine Or.inl ⟨.bool true, fun ρ S w hm => gparses_c _ 10 (byt2 _ _) _ w (hm.own 21 rfl rfl), ?_⟩
     refine aI (fun h => by cases h) (fun _ => ?_)
     exact ⟨m18, ⟨13, by omega⟩, aI (aI rfl (aI rfl (aI rfl (aI rfl trivial)))) (by refine aI rfl ?_; repeat (first | exact trivial | refine aI ⟨rfl, rfl, rfl, rfl⟩ ?_)), by show 16 - 13 < 16 - 12; omega⟩
   · refine aI (show (0 : Int) <= ((13 : Nat) : Int) /\ ((13 : Nat) : Int) < 16 by decide) ?_
     refine ⟨Int, inferInstance, bE, [], wsB hd8, aI rfl (aI rfl (fun y hy => by simp at hy)), ⟨rfl, rfl, fun _ _ => ⟨rfl, rfl⟩⟩, by decide +kernel, ?_⟩
     refine Or.inr (lcall_fresh (wsB x13) (fun ρ S w hm => words_o x13 _ rfl (by decide) _ w (hm.raw 14 rfl rfl x13 _ rfl rfl rfl (fun y hy => rfl))) ?_)
     refine ⟨wsB x13, ⟨rfl, rfl, fun _ _ => ⟨rfl, rfl⟩⟩, by decide +kernel, ?_⟩
     refine Or.inl ⟨.bool true, fun ρ S w hm => gparses_c _ 10 (byt2 _ _) _ w (hm.own 21 rfl rfl), ?_⟩
     refine aI (fun h => by cases h) (fun _ => ?_)
     exact ⟨m18, ⟨14, by omega⟩, aI (aI rfl (aI rfl (aI rfl (aI rfl trivial)))) (by refine aI rfl ?_; repeat (first | exact trivial | refine aI ⟨rfl, rfl, rfl, rfl⟩ ?_)), by show 16 - 14 < 16 - 13; omega⟩
   · refine aI (show (0 : Int) <= ((14 : Nat) : Int) /\ ((14 : Nat) : Int) < 16 by decide) ?_
     refine ⟨Int, inferInstance, bE, [], wsB hd8, aI rfl (aI rfl (fun y hy => by simp at hy)), ⟨rfl, rfl, fun _ _ => ⟨rfl, rfl⟩⟩, by decide +kernel, ?_⟩
     refine Or.inr (lcall_fresh (wsB x14) (fun ρ S w hm => words_o x14 _ rfl (by decide) _ w (hm.raw 15 rfl rfl x14 _ rfl rfl rfl (fun y hy => rfl))) ?_)
     refine ⟨wsB x14, ⟨rfl, rfl, fun _ _ => ⟨rfl, rfl⟩⟩, by decide +kernel, ?_⟩
     refine Or.inl ⟨.bool true, fun ρ S w hm => gparses_c _ 10 (byt2 _ _) _ w (hm.own 21 rfl rfl), ?_⟩
     refine aI (fun h => by cases h) (fun _ => ?_)
     exact ⟨m18, ⟨15, by omega⟩, aI (aI rfl (aI rfl (aI rfl (aI rfl trivial)))) (by refine aI rfl ?_; repeat (first | exact trivial | refine aI ⟨rfl, rfl, rfl, rfl⟩ ?_)), by show 16 - 15 < 16 - 14; omega⟩
   · refine aI (show (0 : Int) <= ((15 : Nat) : Int) /\ ((15 : Nat) : Int) < 16 by decide) ?_
     refine ⟨Int, inferInstance, bE, [], wsB hd8, aI rfl (aI rfl (fun y hy => by simp at hy)), ⟨rfl, rfl, fun _ _ => ⟨rfl, rfl⟩⟩, by decide +kernel, ?_⟩
     refine Or.inr (lcall_fresh (wsB x15) (fun ρ S w hm => words_o x15 _ rfl (by decide) _ w (hm.raw 16 rfl rfl x15 _ rfl rfl rfl (fun y hy => rfl))) ?_)
     refine ⟨wsB x15, ⟨rfl, rfl, fun _ _ => ⟨rfl, rfl⟩⟩, by decide +kernel, ?_⟩
     refine Or.inl ⟨.bool true, fun ρ S w hm => gparses_c _ 10 (byt2 _ _) _ w (hm.own 21 rfl rfl), ?_⟩
     refine aI (fun h => by cases h) (fun _ => ?_)
     exact ⟨m18, ⟨16, by omega⟩, aI (aI rfl (aI rfl (aI rfl (aI rfl trivial)))) (by refine aI rfl ?_; repeat (first | exact trivial | refine aI ⟨rfl, rfl, rfl, rfl⟩ ?_)), by show 16 - 16 < 16 - 15; omega⟩
 refine Or.inl ⟨.bool true, fun ρ S w hm => gparses_c [] 5 (Byt.of fun x hx => by cases hx) _ w DRep.nil, ?_⟩
 refine Or.inl ⟨.bool true, fun _ ρ S w hm => works_c w, ?_⟩
 exact fun ρ S w' hi => ⟨rfl, hi.below⟩
end Go.Proofs.YtjflgkadagkllaaGreat
