/- attach.worker.kern. -/
import Derived.Test.YtaiapnemlnmeiaaT4
namespace Go.Proofs.Ytaiapnemlnmeiaa
open Go Go.Eng Go.RowKit

/-- the first place from i on where it does not hold -/
def skipN (p : Int → Bool) : List Int → Nat → Nat
  | [], i => i
  | g :: r, i => if p g = true then skipN p r (i + 1) else i
theorem drop_nth {α : Type} [Inhabited α] (xs : List α) (i : Nat) (hi : i < xs.length) : xs.drop i = nth xs i :: xs.drop (i + 1) := by
  rw [List.drop_eq_getElem_cons hi]
  unfold nth
  rw [List.getD_eq_getElem?_getD, List.getElem?_eq_getElem hi]
  rfl
theorem skipN_drop (p : Int → Bool) (l : List Int) (i : Nat) (hi : i < l.length) : skipN p (l.drop i) i = if p (nth l i) = true then skipN p (l.drop (i + 1)) (i + 1) else i := by
  rw [drop_nth l i hi]; rfl

def kernJ (f : Font) (flag : Int) (l : List Int) (at' : Nat) : Nat := skipN (passF f flag) (l.drop (at' + 1)) (at' + 1)
/-- what a kern adds -/
def kernD (f : Font) (flag : Int) (l : List Int) (ks : List Kern) (at' : Nat) : Option Int :=
  if kernJ f flag l at' = l.length then none
  else if idxF (kernP l at' (kernJ f flag l at')) ks 0 < 0 then none else some (nth ks (idxF (kernP l at' (kernJ f flag l at')) ks 0).toNat).x
def addP (out : List Place) (at' : Nat) (d : Int) : List Place := out.set at' ⟨(nth out at').adv + d, (nth out at').on, (nth out at').x, (nth out at').y⟩
def kernT (f : Font) (l : List Int) (x : Lookup) (s : Pos) (at' : Nat) (out : List Place) : Bool × List Place :=
  match kernD f x.flag l s.kerns at' with
  | none => (false, out)
  | some d => (true, addP out at' d)

/-- a worker's chunks, and a lookup's and a subtable's -/
abbrev trC (f : Font) (l : List Int) (out : List Place) (x : Lookup) (s : Pos) : List Chunk :=
  [.rd Int inferInstance 1 hE f.adv, .rd Int inferInstance 1 bE f.cls, .rd Pair2 inferInstance 2 mpE f.maps, .rd Lookup inferInstance 4 lkE f.subs, .rd Feature inferInstance 5 feE f.sfeats, .rd Lookup inferInstance 4 lkE f.poss, .rd Feature inferInstance 5 feE f.pfeats,
   .rd Int inferInstance 1 hE l, .own 38 Place inferInstance 4 plE out, .bx 72 [.v (.int .u16 f.units), .v (.int .i16 f.asc), .v (.int .i16 f.desc), .sl 0, .sl 1, .sl 2, .sl 3, .sl 4, .sl 5, .sl 6, .sl 7, .sl 8],
   .rd Sub inferInstance 7 suE x.subs, .rd Pos inferInstance 3 poE x.poss, .rd Kern inferInstance 3 keE s.kerns, .rd Mark inferInstance 4 maE s.marks, .rd Base inferInstance 2 baE s.bases]
abbrev trA (x : Lookup) (at' : Nat) : List SV := [.bx 9 0, .agg [.v (.int .u16 x.ty), .v (.int .u16 x.flag), .sl 10, .sl 11], .agg [.sl 12, .sl 13, .sl 14], .v (.int .i64 at')]
/-- what a trier does -/
def TryS (g : Nat) (f : Font) (l : List Int) (x : Lookup) (s : Pos) (at' : Nat) (out : List Place) (r : Bool × List Place) : Prop :=
  LCall Try.prog ⟨0, [], trC f l out x s, [], []⟩ g (trA x at') (fun st' v => st'.ch = trC f l r.2 x s ∧ v = .v (.bool r.1))

theorem tryRel {f : Font} {l : List Int} {out out' : List Place} {x : Lookup} {s : Pos} (h : out.length ≤ out'.length) : relL (trC f l out x s) (trC f l out' x s) :=
  And.intro ⟨Nat.le_refl _, rfl⟩ (And.intro ⟨Nat.le_refl _, rfl⟩ (And.intro ⟨Nat.le_refl _, rfl⟩ (And.intro ⟨Nat.le_refl _, rfl⟩ (And.intro ⟨Nat.le_refl _, rfl⟩ (And.intro ⟨Nat.le_refl _, rfl⟩ (And.intro ⟨Nat.le_refl _, rfl⟩ (And.intro ⟨Nat.le_refl _, rfl⟩ (And.intro ⟨h, rfl⟩ (And.intro trivial (And.intro ⟨Nat.le_refl _, rfl⟩ (And.intro ⟨Nat.le_refl _, rfl⟩ (And.intro ⟨Nat.le_refl _, rfl⟩ (And.intro ⟨Nat.le_refl _, rfl⟩ (And.intro ⟨Nat.le_refl _, rfl⟩ (trivial)))))))))))))))

theorem addP_len (out : List Place) (at' : Nat) (d : Int) : (addP out at' d).length = out.length := by unfold addP; rw [List.length_set]

theorem kern_s (f : Font) (l : List Int) (x : Lookup) (s : Pos) (at' : Nat) (out : List Place) (hl : U16L l) (hll : l.length ≤ 1000000) (hks : s.kerns.length ≤ 9223372036854775807) (hat : at' < l.length) (hol : out.length = l.length)
    (hr : ∀ d, kernD f x.flag l s.kerns at' = some d → -40000 ≤ d ∧ d ≤ 40000 ∧ -2000000000 ≤ (nth out at').adv ∧ (nth out at').adv ≤ 2000000000) : TryS 25 f l x s at' out (kernT f l x s at' out) := by
  unfold TryS
  have hlen : out.length ≤ (kernT f l x s at' out).2.length := by
    unfold kernT
    cases kernD f x.flag l s.kerns at' with
    | none => exact Nat.le_refl _
    | some d => show _ ≤ (addP out at' d).length; rw [addP_len]; exact Nat.le_refl _
  refine lcall_exec (cf := cf) cfok (fn := Try.f25) Try.func25 rfl _ _ (trC f l (kernT f l x s at' out).2 x s) (.v (.bool (kernT f l x s at' out).1)) rfl rfl (by simp [svOkL, svOk]) rfl (tryRel hlen) rfl rfl ?_
  refine ⟨{ j : Nat // at' < j ∧ j ≤ l.length ∧ kernJ f x.flag l at' = skipN (passF f x.flag) (l.drop j) j }, fun j => ⟨67, [⟨4, [], .bx 15 0⟩, ⟨5, [], .bx 16 0⟩, ⟨6, [], .bx 17 0⟩, ⟨7, [], .bx 18 0⟩, ⟨9, [], .bx 19 0⟩], trC f l out x s ++ [.bx 70 [.bx 9 0], .bx 56 [.v (.int .u16 x.ty), .v (.int .u16 x.flag), .sl 10, .sl 11], .bx 52 [.sl 12, .sl 13, .sl 14], .bx 3 [.v (.int .i64 at')], .bx 3 [.v (.int .i64 j.1)]], [], dropL nats 20⟩, fun j => l.length - j.1,
    ⟨[0, 1, 2, 3, 4, 5, 6, 7, 8, 9, 10, 11, 12, 13, 14, 15, 16, 17, 18, 19], ⟨at' + 1, by omega, by omega, rfl⟩, ?_⟩, fun i => ?_⟩
  · exact And.intro (And.intro rfl (And.intro rfl (And.intro rfl (And.intro rfl (And.intro rfl trivial))))) (And.intro rfl (And.intro rfl (And.intro rfl (And.intro rfl (And.intro rfl (And.intro rfl (And.intro rfl (And.intro rfl (And.intro rfl (And.intro ⟨rfl, rfl⟩ (And.intro rfl (And.intro rfl (And.intro rfl (And.intro rfl (And.intro rfl (And.intro ⟨rfl, rfl⟩ (And.intro ⟨rfl, rfl⟩ (And.intro ⟨rfl, rfl⟩ (And.intro ⟨rfl, rfl⟩ (And.intro ⟨rfl, congrArg (fun z => [SV.v (.int .i64 z)]) (i64_succ at' (by omega))⟩ trivial))))))))))))))))))))
  obtain ⟨j, hj, hjl, hsk⟩ := i
  refine Or.inl ⟨by kernel_rfl, ?_⟩
  refine ⟨.bool (passF f x.flag (nth l j)), fun hg ρ S w hm => ?_, ?_⟩
  · have hg : (j : Int) < (l.length : Int) := of_decide_eq_true hg
    exact passed_c f l out x.flag j (by omega) hl _ w (hm.rep 40 (.bx 9 0) _ rfl rfl)
  refine And.intro (fun hc => ?_) (fun hc => ?_)
  · have hc : (decide ((j : Int) < (l.length : Int)) && passF f x.flag (nth l j)) = true := hc
    rw [Bool.and_eq_true, decide_eq_true_iff] at hc
    have hjl : j < l.length := by omega
    rw [skipN_drop _ l j hjl, if_pos hc.2] at hsk
    exact ⟨[0, 1, 2, 3, 4, 5, 6, 7, 8, 9, 10, 11, 12, 13, 14, 15, 16, 17, 18, 19], ⟨j + 1, by omega, by omega, hsk⟩, And.intro (And.intro rfl (And.intro rfl (And.intro rfl (And.intro rfl (And.intro rfl trivial))))) (And.intro rfl (And.intro rfl (And.intro rfl (And.intro rfl (And.intro rfl (And.intro rfl (And.intro rfl (And.intro rfl (And.intro rfl (And.intro ⟨rfl, rfl⟩ (And.intro rfl (And.intro rfl (And.intro rfl (And.intro rfl (And.intro rfl (And.intro ⟨rfl, rfl⟩ (And.intro ⟨rfl, rfl⟩ (And.intro ⟨rfl, rfl⟩ (And.intro ⟨rfl, rfl⟩ (And.intro ⟨rfl, congrArg (fun z => [SV.v (.int .i64 z)]) (i64_succ j (by omega))⟩ trivial)))))))))))))))))))), by show _ - (j + 1) < _ - j; omega⟩
  have hc : (decide ((j : Int) < (l.length : Int)) && passF f x.flag (nth l j)) = false := hc
  have hJ : kernJ f x.flag l at' = j := by
    rw [hsk]
    by_cases e : j = l.length
    · rw [e, List.drop_length]; rfl
    · have hjl : j < l.length := by omega
      rw [skipN_drop _ l j hjl]
      rw [decide_eq_true (by omega : (j : Int) < (l.length : Int)), Bool.true_and] at hc
      rw [if_neg (fun h => by rw [hc] at h; cases h)]
  refine Or.inl ⟨by kernel_rfl, ?_⟩
  have hKN : kernD f x.flag l s.kerns at' = none → kernT f l x s at' out = (false, out) := fun h => by unfold kernT; rw [h]
  have hKS : ∀ d, kernD f x.flag l s.kerns at' = some d → kernT f l x s at' out = (true, addP out at' d) := fun d h => by unfold kernT; rw [h]
  refine And.intro (fun he => ?_) (fun he => ?_)
  · have he : (j : Int) = (l.length : Int) := of_decide_eq_true he
    rw [hKN (by unfold kernD; rw [if_pos (by rw [hJ]; omega)])]
    exact ⟨[0, 1, 2, 3, 4, 5, 6, 7, 8, 9, 10, 11, 12, 13, 14], rfl, rfl, rfl, (And.intro rfl (And.intro rfl (And.intro rfl (And.intro rfl (And.intro rfl (And.intro rfl (And.intro rfl (And.intro rfl (And.intro rfl (And.intro ⟨rfl, rfl⟩ (And.intro rfl (And.intro rfl (And.intro rfl (And.intro rfl (And.intro rfl trivial))))))))))))))), rfl⟩
  have he : ¬ (j : Int) = (l.length : Int) := of_decide_eq_false he
  have hjl : j < l.length := by omega
  refine Or.inl ⟨.int .i64 (idxF (kernP l at' j) s.kerns 0), fun ρ S w hm => kernIdx_c f l out at' j hat hjl s.kerns hks _ _ _ _ w (hm.rd 12 rfl rfl) (hm.rep 40 (.bx 15 0) _ rfl rfl) (hm.rep 3 (.bx 18 0) _ rfl rfl) (hm.rep 3 (.bx 19 0) _ rfl rfl), ?_⟩
  have hD : kernD f x.flag l s.kerns at' = if idxF (kernP l at' j) s.kerns 0 < 0 then none else some (nth s.kerns (idxF (kernP l at' j) s.kerns 0).toNat).x := by
    unfold kernD
    rw [hJ, if_neg (by omega)]
  refine And.intro (fun hi => ?_) (fun hi => ?_)
  · have hi : idxF (kernP l at' j) s.kerns 0 < 0 := of_decide_eq_true hi
    rw [hKN (by rw [hD, if_pos hi])]
    exact ⟨[0, 1, 2, 3, 4, 5, 6, 7, 8, 9, 10, 11, 12, 13, 14], rfl, rfl, rfl, (And.intro rfl (And.intro rfl (And.intro rfl (And.intro rfl (And.intro rfl (And.intro rfl (And.intro rfl (And.intro rfl (And.intro rfl (And.intro ⟨rfl, rfl⟩ (And.intro rfl (And.intro rfl (And.intro rfl (And.intro rfl (And.intro rfl trivial))))))))))))))), rfl⟩
  have hi : ¬ idxF (kernP l at' j) s.kerns 0 < 0 := of_decide_eq_false hi
  rw [if_neg hi] at hD
  obtain ⟨b1, b2, b3, b4⟩ := hr _ hD
  rw [hKS _ hD]
  have hrange := idxF_range (kernP l at' j) s.kerns 0
  generalize idxF (kernP l at' j) s.kerns 0 = q at *
  have hq : 0 ≤ q ∧ q < (s.kerns.length : Int) := by omega
  refine Or.inr (Or.inr (Or.inl ⟨[0, 1, 2, 3, 4, 5, 6, 7, 8, 9, 10, 11, 12, 13, 14, 15, 16, 17, 18, 19, 20, 21, 22, 23, 24], [], [25], by kernel_rfl, ?_⟩))
  refine And.intro (show (0 : Int) ≤ (at' : Int) ∧ (at' : Int) < (out.length : Int) from ⟨by omega, by omega⟩) ?_
  refine And.intro hq ?_
  have e : IntKind.i64.wrap (IntKind.i64.wrap (nth out at').adv + IntKind.i64.wrap (nth s.kerns q.toNat).x) = (nth out at').adv + (nth s.kerns q.toNat).x := by
    rw [i64_id (nth out at').adv (by omega) (by omega), i64_id (nth s.kerns q.toNat).x (by omega) (by omega), i64_id _ (by omega) (by omega)]
  refine ⟨.int .i32 ((nth out at').adv + (nth s.kerns q.toNat).x), fun ρ S w hm => ?_, ?_⟩
  · have := narrow_c ((nth out at').adv + (nth s.kerns q.toNat).x) (by omega) (by omega) w
    rw [← e] at this
    rw [e] at this
    show Calls _ 20 #[.int .i64 (IntKind.i64.wrap (IntKind.i64.wrap (nth out at').adv + IntKind.i64.wrap (nth s.kerns q.toNat).x))] _ _
    rw [e]; exact this
  refine And.intro (show (0 : Int) ≤ (at' : Int) ∧ (at' : Int) < (out.length : Int) from ⟨by omega, by omega⟩) ?_
  refine ⟨⟨(nth out at').adv + (nth s.kerns q.toNat).x, (nth out at').on, (nth out at').x, (nth out at').y⟩, rfl, rfl, ?_⟩
  exact ⟨[0, 1, 2, 3, 4, 5, 6, 7, 8, 9, 10, 11, 12, 13, 14], rfl, rfl, rfl, (And.intro rfl (And.intro rfl (And.intro rfl (And.intro rfl (And.intro rfl (And.intro rfl (And.intro rfl (And.intro rfl (And.intro rfl (And.intro ⟨rfl, rfl⟩ (And.intro rfl (And.intro rfl (And.intro rfl (And.intro rfl (And.intro rfl trivial))))))))))))))), rfl⟩
end Go.Proofs.Ytaiapnemlnmeiaa
