/- calamuskit.Weight: how it is counted; few. -/
import Derived.Test.YtaiapnemlnmeiaaT19
namespace Go.Proofs.Ytaiapnemlnmeiaa
open Go Go.Eng Go.RowKit

def gSub (x : Lookup) (top : Int) (k : Nat) (n : Int) : Int := IntKind.i64.wrap (n + subW (nth x.subs k) top)
def gBase (p : Pos) (j : Nat) (n : Int) : Int := addG ((nth p.bases j).an.length : Nat) n
def gPos (x : Lookup) (top : Int) (q : Nat) (n : Int) : Int := run top (gBase (nth x.poss q)) (nth x.poss q).bases.length (IntKind.i64.wrap (IntKind.i64.wrap (n + ((nth x.poss q).kerns.length : Int)) + ((nth x.poss q).marks.length : Int)))
def lk0 (x : Lookup) (n : Int) : Int := IntKind.i64.wrap (IntKind.i64.wrap (IntKind.i64.wrap (n + 1) + (x.subs.length : Int)) + (x.poss.length : Int))
def gLk (ls : List Lookup) (top : Int) (i : Nat) (n : Int) : Int := run top (gPos (nth ls i) top) (nth ls i).poss.length (run top (gSub (nth ls i) top) (nth ls i).subs.length (lk0 (nth ls i) n))
def weightF (ls : List Lookup) (top : Int) : Int := min (run top (gLk ls top) ls.length 0) (IntKind.i64.wrap (top + 1))
structure LksB (ls : List Lookup) : Prop where
  len : ls.length ≤ 9223372036854775807
  sl : ∀ x ∈ ls, x.subs.length ≤ 9223372036854775807
  s : ∀ x ∈ ls, ∀ s ∈ x.subs, SubB s
  pl : ∀ x ∈ ls, x.poss.length ≤ 9223372036854775807
  p : ∀ x ∈ ls, ∀ p ∈ x.poss, p.bases.length ≤ 9223372036854775807

set_option maxHeartbeats 1000000 in
theorem weight_c (ls : List Lookup) (top : Int) (hls : LksB ls) (v : Value) (w : World) (hv : Rd w v 4 lkE ls) : Calls Try.prog 12 #[v, .int .i64 top] w fun e w' => e = .returned (.int .i64 (weightF ls top)) ∧ Below w.heap.size w w' := by
  refine calls_exec (cf := cf) cfok (fn := Try.f12) Try.func12 rfl [.sl 0, .v (.int .i64 top)] [.rd Lookup inferInstance 4 lkE ls] (ρ := fun i => v) (· < w.heap.size) rfl rfl rfl (by simp [svOkL, svOk]) (memRd (fun _ h => h) ⟨hv, trivial⟩) ?_
  have hlen := hls.len
  refine ⟨{ z : Nat × Int // z.1 ≤ ls.length ∧ run top (gLk ls top) ls.length (0) = loopC top (gLk ls top) ls.length (ls.length - z.1) z.1 z.2 }, fun z => ⟨123, [⟨0, [], .sl 0⟩, ⟨1, [], .v (.int .i64 top)⟩, ⟨5, [], .v (.int .i64 z.1.2)⟩, ⟨6, [], .v (.int .i64 z.1.1)⟩], [.rd Lookup inferInstance 4 lkE ls], [], dropL nats 1⟩, fun z => ls.length - z.1.1,
    ⟨[0], ⟨(0, 0), by show 0 ≤ _; omega, rfl⟩, ?_⟩, fun z => ?_⟩
  · exact And.intro (And.intro (rfl) (And.intro (rfl) (And.intro (rfl) (And.intro (rfl) trivial)))) (And.intro (rfl) trivial)
  obtain ⟨⟨i, n⟩, hi, hA⟩ := z
  have hi : i ≤ ls.length := hi
  have hA : run top (gLk ls top) ls.length (0) = loopC top (gLk ls top) ls.length (ls.length - i) i n := hA
  refine And.intro (fun hc => ?_) (fun hc => ?_)
  · have hc : (decide ((i : Int) < (ls.length : Int)) && decide (n ≤ top)) = true := hc
    rw [Bool.and_eq_true, decide_eq_true_iff, decide_eq_true_iff] at hc
    have hlti : i < ls.length := by omega
    rw [loopC_step top (gLk ls top) _ _ _ hlti, if_pos hc.2] at hA
    refine Or.inl ⟨by kernel_rfl, ?_⟩
    refine And.intro (show (0 : Int) ≤ (i : Int) ∧ (i : Int) < (ls.length : Int) from ⟨by omega, by omega⟩) ?_
    refine And.intro (show (0 : Int) ≤ (i : Int) ∧ (i : Int) < (ls.length : Int) from ⟨by omega, by omega⟩) ?_
    have hsl := hls.sl _ (nth_mem hlti)
    have hpl := hls.pl _ (nth_mem hlti)
    refine ⟨{ z : Nat × Int // z.1 ≤ (nth ls i).subs.length ∧ run top (gSub (nth ls i) top) (nth ls i).subs.length (lk0 (nth ls i) n) = loopC top (gSub (nth ls i) top) (nth ls i).subs.length ((nth ls i).subs.length - z.1) z.1 z.2 }, fun z => ⟨123, [⟨0, [], .sl 0⟩, ⟨1, [], .v (.int .i64 top)⟩, ⟨5, [], .v (.int .i64 z.1.2)⟩, ⟨6, [], .v (.int .i64 i)⟩, ⟨7, [], .v (.int .i64 z.1.1)⟩], [.rd Lookup inferInstance 4 lkE ls], [], dropL nats 1⟩, fun z => (nth ls i).subs.length - z.1.1,
      ⟨[0], ⟨(0, lk0 (nth ls i) n), by show 0 ≤ _; omega, rfl⟩, ?_⟩, fun z => ?_⟩
    · exact And.intro (And.intro (rfl) (And.intro (rfl) (And.intro (rfl) (And.intro (rfl) (And.intro (rfl) trivial))))) (And.intro (rfl) trivial)
    obtain ⟨⟨k, a⟩, hk, hS⟩ := z
    have hk : k ≤ (nth ls i).subs.length := hk
    have hS : run top (gSub (nth ls i) top) (nth ls i).subs.length (lk0 (nth ls i) n) = loopC top (gSub (nth ls i) top) (nth ls i).subs.length ((nth ls i).subs.length - k) k a := hS
    refine And.intro (show (0 : Int) ≤ (i : Int) ∧ (i : Int) < (ls.length : Int) from ⟨by omega, by omega⟩) ?_
    refine And.intro (fun hc => ?_) (fun hc => ?_)
    · have hc : (decide ((k : Int) < ((nth ls i).subs.length : Int)) && decide (a ≤ top)) = true := hc
      rw [Bool.and_eq_true, decide_eq_true_iff, decide_eq_true_iff] at hc
      have hltk : k < (nth ls i).subs.length := by omega
      rw [loopC_step top (gSub (nth ls i) top) _ _ _ hltk, if_pos hc.2] at hS
      refine And.intro (show (0 : Int) ≤ (i : Int) ∧ (i : Int) < (ls.length : Int) from ⟨by omega, by omega⟩) ?_
      refine And.intro (show (0 : Int) ≤ (k : Int) ∧ (k : Int) < ((nth ls i).subs.length : Int) from ⟨by omega, by omega⟩) ?_
      have hsb := (hls.s _ (nth_mem hlti)) _ (nth_mem hltk)
      refine Or.inl ⟨.int .i64 (subW (nth (nth ls i).subs k) top), fun ρ S w hm => subWeight_c (nth (nth ls i).subs k) top hsb _ _ _ _ _ _ _ w (hm.rd 3 rfl rfl) (hm.rd 4 rfl rfl) (hm.rd 5 rfl rfl) (hm.rd 6 rfl rfl) (hm.rd 7 rfl rfl) (hm.rd 8 rfl rfl) (hm.rd 9 rfl rfl), ?_⟩
      exact ⟨[0], ⟨(k + 1, gSub (nth ls i) top k a), hltk, hS⟩, And.intro (And.intro (rfl) (And.intro (rfl) (And.intro (rfl) (And.intro (rfl) (And.intro (svI (i64_succ k (by omega))) trivial))))) (And.intro (rfl) trivial), by show _ - (k + 1) < _ - k; omega⟩
    have hc : (decide ((k : Int) < ((nth ls i).subs.length : Int)) && decide (a ≤ top)) = false := hc
    rw [loopC_end top (gSub (nth ls i) top) _ _ _ (fun h1 h2 => by rw [decide_eq_true (by omega : (k : Int) < ((nth ls i).subs.length : Int)), decide_eq_true h2] at hc; cases hc)] at hS
    refine ⟨{ z : Nat × Int // z.1 ≤ (nth ls i).poss.length ∧ run top (gPos (nth ls i) top) (nth ls i).poss.length (run top (gSub (nth ls i) top) (nth ls i).subs.length (lk0 (nth ls i) n)) = loopC top (gPos (nth ls i) top) (nth ls i).poss.length ((nth ls i).poss.length - z.1) z.1 z.2 }, fun z => ⟨123, [⟨0, [], .sl 0⟩, ⟨1, [], .v (.int .i64 top)⟩, ⟨5, [], .v (.int .i64 z.1.2)⟩, ⟨6, [], .v (.int .i64 i)⟩, ⟨8, [], .v (.int .i64 z.1.1)⟩], [.rd Lookup inferInstance 4 lkE ls], [], dropL nats 1⟩, fun z => (nth ls i).poss.length - z.1.1,
      ⟨[0], ⟨(0, run top (gSub (nth ls i) top) (nth ls i).subs.length (lk0 (nth ls i) n)), by show 0 ≤ _; omega, rfl⟩, ?_⟩, fun z => ?_⟩
    · exact And.intro (And.intro (rfl) (And.intro (rfl) (And.intro (svI hS.symm) (And.intro (rfl) (And.intro (rfl) trivial))))) (And.intro (rfl) trivial)
    obtain ⟨⟨q, b⟩, hq, hB⟩ := z
    have hq : q ≤ (nth ls i).poss.length := hq
    have hB : run top (gPos (nth ls i) top) (nth ls i).poss.length (run top (gSub (nth ls i) top) (nth ls i).subs.length (lk0 (nth ls i) n)) = loopC top (gPos (nth ls i) top) (nth ls i).poss.length ((nth ls i).poss.length - q) q b := hB
    refine And.intro (show (0 : Int) ≤ (i : Int) ∧ (i : Int) < (ls.length : Int) from ⟨by omega, by omega⟩) ?_
    refine And.intro (fun hc => ?_) (fun hc => ?_)
    · have hc : (decide ((q : Int) < ((nth ls i).poss.length : Int)) && decide (b ≤ top)) = true := hc
      rw [Bool.and_eq_true, decide_eq_true_iff, decide_eq_true_iff] at hc
      have hltq : q < (nth ls i).poss.length := by omega
      rw [loopC_step top (gPos (nth ls i) top) _ _ _ hltq, if_pos hc.2] at hB
      refine And.intro (show (0 : Int) ≤ (i : Int) ∧ (i : Int) < (ls.length : Int) from ⟨by omega, by omega⟩) ?_
      refine And.intro (show (0 : Int) ≤ (q : Int) ∧ (q : Int) < ((nth ls i).poss.length : Int) from ⟨by omega, by omega⟩) ?_
      have hbs := (hls.p _ (nth_mem hlti)) _ (nth_mem hltq)
      refine ⟨{ z : Nat × Int // z.1 ≤ (nth (nth ls i).poss q).bases.length ∧ run top (gBase (nth (nth ls i).poss q)) (nth (nth ls i).poss q).bases.length (IntKind.i64.wrap (IntKind.i64.wrap (b + ((nth (nth ls i).poss q).kerns.length : Int)) + ((nth (nth ls i).poss q).marks.length : Int))) = loopC top (gBase (nth (nth ls i).poss q)) (nth (nth ls i).poss q).bases.length ((nth (nth ls i).poss q).bases.length - z.1) z.1 z.2 }, fun z => ⟨123, [⟨0, [], .sl 0⟩, ⟨1, [], .v (.int .i64 top)⟩, ⟨5, [], .v (.int .i64 z.1.2)⟩, ⟨6, [], .v (.int .i64 i)⟩, ⟨8, [], .v (.int .i64 q)⟩, ⟨9, [], .bx 4 0⟩, ⟨10, [], .v (.int .i64 z.1.1)⟩], [.rd Lookup inferInstance 4 lkE ls, .rd Kern inferInstance 3 keE (nth (nth ls i).poss q).kerns, .rd Mark inferInstance 4 maE (nth (nth ls i).poss q).marks, .rd Base inferInstance 2 baE (nth (nth ls i).poss q).bases, .bx 52 [.sl 1, .sl 2, .sl 3]], [], dropL nats 5⟩, fun z => (nth (nth ls i).poss q).bases.length - z.1.1,
        ⟨[0, 3, 4, 5, 6], ⟨(0, IntKind.i64.wrap (IntKind.i64.wrap (b + ((nth (nth ls i).poss q).kerns.length : Int)) + ((nth (nth ls i).poss q).marks.length : Int))), by show 0 ≤ _; omega, rfl⟩, ?_⟩, fun z => ?_⟩
      · exact And.intro (And.intro (rfl) (And.intro (rfl) (And.intro (rfl) (And.intro (rfl) (And.intro (rfl) (And.intro (rfl) (And.intro (rfl) trivial))))))) (And.intro (rfl) (And.intro (rfl) (And.intro (rfl) (And.intro (rfl) (And.intro (⟨rfl, rfl⟩) trivial)))))
      obtain ⟨⟨j, c⟩, hj, hC⟩ := z
      have hj : j ≤ (nth (nth ls i).poss q).bases.length := hj
      have hC : run top (gBase (nth (nth ls i).poss q)) (nth (nth ls i).poss q).bases.length (IntKind.i64.wrap (IntKind.i64.wrap (b + ((nth (nth ls i).poss q).kerns.length : Int)) + ((nth (nth ls i).poss q).marks.length : Int))) = loopC top (gBase (nth (nth ls i).poss q)) (nth (nth ls i).poss q).bases.length ((nth (nth ls i).poss q).bases.length - j) j c := hC
      refine And.intro (fun hc => ?_) (fun hc => ?_)
      · have hc : (decide ((j : Int) < ((nth (nth ls i).poss q).bases.length : Int)) && decide (c ≤ top)) = true := hc
        rw [Bool.and_eq_true, decide_eq_true_iff, decide_eq_true_iff] at hc
        have hltj : j < (nth (nth ls i).poss q).bases.length := by omega
        rw [loopC_step top (gBase (nth (nth ls i).poss q)) _ _ _ hltj, if_pos hc.2] at hC
        refine And.intro (show (0 : Int) ≤ (j : Int) ∧ (j : Int) < ((nth (nth ls i).poss q).bases.length : Int) from ⟨by omega, by omega⟩) ?_
        exact ⟨[0, 1, 2, 3, 4], ⟨(j + 1, gBase (nth (nth ls i).poss q) j c), hltj, hC⟩, And.intro (And.intro (rfl) (And.intro (rfl) (And.intro (rfl) (And.intro (rfl) (And.intro (rfl) (And.intro (rfl) (And.intro (svI (i64_succ j (by omega))) trivial))))))) (And.intro (rfl) (And.intro (rfl) (And.intro (rfl) (And.intro (rfl) (And.intro (⟨rfl, rfl⟩) trivial))))), by show _ - (j + 1) < _ - j; omega⟩
      have hc : (decide ((j : Int) < ((nth (nth ls i).poss q).bases.length : Int)) && decide (c ≤ top)) = false := hc
      rw [loopC_end top (gBase (nth (nth ls i).poss q)) _ _ _ (fun h1 h2 => by rw [decide_eq_true (by omega : (j : Int) < ((nth (nth ls i).poss q).bases.length : Int)), decide_eq_true h2] at hc; cases hc)] at hC
      exact ⟨[0], ⟨(q + 1, gPos (nth ls i) top q b), hltq, hB⟩, And.intro (And.intro (rfl) (And.intro (rfl) (And.intro (svI hC.symm) (And.intro (rfl) (And.intro (svI (i64_succ q (by omega))) trivial))))) (And.intro (rfl) trivial), by show _ - (q + 1) < _ - q; omega⟩
    have hc : (decide ((q : Int) < ((nth ls i).poss.length : Int)) && decide (b ≤ top)) = false := hc
    rw [loopC_end top (gPos (nth ls i) top) _ _ _ (fun h1 h2 => by rw [decide_eq_true (by omega : (q : Int) < ((nth ls i).poss.length : Int)), decide_eq_true h2] at hc; cases hc)] at hB
    exact ⟨[0], ⟨(i + 1, gLk ls top i n), hlti, hA⟩, And.intro (And.intro (rfl) (And.intro (rfl) (And.intro (svI hB.symm) (And.intro (svI (i64_succ i (by omega))) trivial)))) (And.intro (rfl) trivial), by show _ - (i + 1) < _ - i; omega⟩
  have hc : (decide ((i : Int) < (ls.length : Int)) && decide (n ≤ top)) = false := hc
  rw [loopC_end top (gLk ls top) _ _ _ (fun h1 h2 => by rw [decide_eq_true (by omega : (i : Int) < (ls.length : Int)), decide_eq_true h2] at hc; cases hc)] at hA
  exact fun ρ S w' hi => ⟨retI (congrArg (fun z => min z (IntKind.i64.wrap (top + 1))) hA.symm), hi.below⟩

def fewF (f : Font) : Bool := !(((decide ((f.poss.length : Int) > 12) || decide (weightF f.poss 400 > 400)) || decide ((f.pfeats.length : Int) > 20)) || decide ((f.cls.length : Int) > 70000)) && f.pfeats.all fun x => !decide ((x.lks.length : Int) > 20)
theorem few_c (f : Font) (hls : LksB f.poss) (v : Value) (w : World) (hv : FontV (· < w.heap.size) w f v) : Calls Try.prog 6 #[v] w fun e w' => e = .returned (.bool (fewF f)) ∧ Below w.heap.size w w' := by
  obtain ⟨a, c, m, s, sf, p, pf, rfl, h1, h2, h3, h4, h5, h6, h7⟩ := hv.get
  refine calls_exec (cf := cf) cfok (fn := Try.f6) Try.func6 rfl [.agg (foS f 0)] (foC f) (ρ := rho7 a c m s sf p pf) (· < w.heap.size) rfl rfl rfl (by simp [svOkL, svOk]) (memRd (fun _ h => h) ⟨h1, h2, h3, h4, h5, h6, h7, trivial⟩) ?_
  refine Or.inl ⟨.int .i64 (weightF f.poss 400), fun _ ρ S w hm => weight_c f.poss 400 hls _ w (hm.rd 5 rfl rfl), ?_⟩
  have R : ∀ b : Bool, fewF f = b → Ending.returned (.bool b) = Ending.returned (.bool (fewF f)) := fun b h => by rw [h]
  refine And.intro (fun hb => ?_) (fun hb => ?_)
  · have hb : (((decide ((f.poss.length : Int) > 12) || decide (weightF f.poss 400 > 400)) || decide ((f.pfeats.length : Int) > 20)) || decide ((f.cls.length : Int) > 70000)) = true := hb
    exact fun ρ S w' hi => ⟨R false (by unfold fewF; rw [hb]; rfl), hi.below⟩
  have hb : (((decide ((f.poss.length : Int) > 12) || decide (weightF f.poss 400 > 400)) || decide ((f.pfeats.length : Int) > 20)) || decide ((f.cls.length : Int) > 70000)) = false := hb
  have hF : fewF f = f.pfeats.all fun x => !decide ((x.lks.length : Int) > 20) := by unfold fewF; rw [hb]; rfl
  have h20 : f.pfeats.length ≤ 20 := by
    rw [Bool.or_eq_false_iff, Bool.or_eq_false_iff, Bool.or_eq_false_iff, decide_eq_false_iff_not, decide_eq_false_iff_not, decide_eq_false_iff_not, decide_eq_false_iff_not] at hb
    omega
  refine ⟨{ i : Nat // i ≤ f.pfeats.length ∧ ∀ j, j < i → ¬ ((nth f.pfeats j).lks.length : Int) > 20 }, fun i => ⟨41, [⟨1, [], .bx 7 0⟩, ⟨3, [], .v (.int .i64 i.1)⟩], foC f ++ [.bx 30 (foS f 0)], [], dropL nats 8⟩, fun i => f.pfeats.length - i.1,
    ⟨[0, 1, 2, 3, 4, 5, 6, 7], ⟨0, by omega, fun j hj => by omega⟩, ?_⟩, fun i => ?_⟩
  · exact And.intro (And.intro (rfl) (And.intro (rfl) trivial)) (And.intro (rfl) (And.intro (rfl) (And.intro (rfl) (And.intro (rfl) (And.intro (rfl) (And.intro (rfl) (And.intro (rfl) (And.intro (⟨rfl, rfl⟩) trivial))))))))
  obtain ⟨i, hi, hall⟩ := i
  refine And.intro (fun hlt => ?_) (fun hge => ?_)
  · have hlt : i < f.pfeats.length := by have : (i : Int) < (f.pfeats.length : Int) := of_decide_eq_true hlt
                                         omega
    refine And.intro (show (0 : Int) ≤ (i : Int) ∧ (i : Int) < (f.pfeats.length : Int) from ⟨by omega, by omega⟩) ?_
    refine And.intro (fun hb2 => ?_) (fun hb2 => ?_)
    · have hb2 : ((nth f.pfeats i).lks.length : Int) > 20 := of_decide_eq_true hb2
      refine fun ρ S w' hi => ⟨R false ?_, hi.below⟩
      rw [hF, List.all_eq_false]
      exact ⟨nth f.pfeats i, nth_mem hlt, by rw [decide_eq_true hb2]; decide⟩
    · have hb2 : ¬ ((nth f.pfeats i).lks.length : Int) > 20 := of_decide_eq_false hb2
      refine ⟨[0, 1, 2, 3, 4, 5, 6, 7], ⟨i + 1, hlt, fun j hj => ?_⟩, And.intro (And.intro (rfl) (And.intro (svI (i64_succ i (by omega))) trivial)) (And.intro (rfl) (And.intro (rfl) (And.intro (rfl) (And.intro (rfl) (And.intro (rfl) (And.intro (rfl) (And.intro (rfl) (And.intro (⟨rfl, rfl⟩) trivial)))))))), by show _ - (i + 1) < _ - i; omega⟩
      by_cases e : j = i
      · subst e; exact hb2
      · exact hall j (by omega)
  have hge : i = f.pfeats.length := by have : ¬ (i : Int) < (f.pfeats.length : Int) := of_decide_eq_false hge
                                       omega
  subst hge
  refine fun ρ S w' hi => ⟨R true ?_, hi.below⟩
  rw [hF, List.all_eq_true]
  intro x hx
  obtain ⟨j, hj, rfl⟩ := List.getElem_of_mem hx
  have := hall j hj
  unfold nth at this
  rw [List.getD_eq_getElem?_getD, List.getElem?_eq_getElem hj] at this
  rw [Option.getD_some] at this
  rw [decide_eq_false this]; rfl
end Go.Proofs.Ytaiapnemlnmeiaa
