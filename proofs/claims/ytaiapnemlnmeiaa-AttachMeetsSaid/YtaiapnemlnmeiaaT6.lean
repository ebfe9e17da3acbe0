/- attach.worker.stand. -/
import Derived.Test.YtaiapnemlnmeiaaT5
namespace Go.Proofs.Ytaiapnemlnmeiaa
open Go Go.Eng Go.RowKit

def sub32 (a b : Int) : Int := IntKind.i32.wrap (IntKind.i32.wrap a - IntKind.i32.wrap b)
abbrev mIx (l : List Int) (s : Pos) (at' : Nat) : Int := idxF (markP l at') s.marks 0
abbrev bIx (l : List Int) (s : Pos) (j : Nat) : Int := idxF (baseP l j) s.bases 0
abbrev anN (l : List Int) (s : Pos) (at' j : Nat) : Anchor := nth (nth s.bases (bIx l s j).toNat).an (nth s.marks (mIx l s at').toNat).c.toNat
/-- how far it stands from the other one -/
def standD (l : List Int) (s : Pos) (at' j : Nat) : Option (Int × Int) :=
  if mIx l s at' < 0 ∨ bIx l s j < 0 then none
  else if ((nth s.bases (bIx l s j).toNat).an.length : Int) ≤ (nth s.marks (mIx l s at').toNat).c then none
  else if (anN l s at' j).has = true then some (sub32 (anN l s at' j).x (nth s.marks (mIx l s at').toNat).x, sub32 (anN l s at' j).y (nth s.marks (mIx l s at').toNat).y) else none
def putP (out : List Place) (at' j : Nat) (d : Int × Int) : List Place := out.set at' ⟨(nth out at').adv, j, d.1, d.2⟩
def standT (l : List Int) (s : Pos) (at' j : Nat) (out : List Place) : Bool × List Place :=
  match standD l s at' j with
  | none => (false, out)
  | some d => (true, putP out at' j d)
theorem putP_len (out : List Place) (at' j : Nat) (d : Int × Int) : (putP out at' j d).length = out.length := by unfold putP; rw [List.length_set]
theorem standT_len (l : List Int) (s : Pos) (at' j : Nat) (out : List Place) : (standT l s at' j out).2.length = out.length := by
  unfold standT
  cases standD l s at' j with
  | none => rfl
  | some d => exact putP_len _ _ _ _

abbrev stC (f : Font) (l : List Int) (out : List Place) (s : Pos) : List Chunk :=
  [.rd Int inferInstance 1 hE f.adv, .rd Int inferInstance 1 bE f.cls, .rd Pair2 inferInstance 2 mpE f.maps, .rd Lookup inferInstance 4 lkE f.subs, .rd Feature inferInstance 5 feE f.sfeats, .rd Lookup inferInstance 4 lkE f.poss, .rd Feature inferInstance 5 feE f.pfeats,
   .rd Int inferInstance 1 hE l, .own 38 Place inferInstance 4 plE out, .bx 72 [.v (.int .u16 f.units), .v (.int .i16 f.asc), .v (.int .i16 f.desc), .sl 0, .sl 1, .sl 2, .sl 3, .sl 4, .sl 5, .sl 6, .sl 7, .sl 8],
   .rd Kern inferInstance 3 keE s.kerns, .rd Mark inferInstance 4 maE s.marks, .rd Base inferInstance 2 baE s.bases]
/-- the numbers of marks are numbers of 16 bits -/
def MarksOk (s : Pos) : Prop := ∀ m ∈ s.marks, 0 ≤ m.c ∧ m.c ≤ 65535
structure PosB (s : Pos) : Prop where
  k : s.kerns.length ≤ 9223372036854775807
  m : s.marks.length ≤ 9223372036854775807
  b : s.bases.length ≤ 9223372036854775807
  c : MarksOk s
theorem nth_mem {α : Type} [Inhabited α] {xs : List α} {i : Nat} (h : i < xs.length) : nth xs i ∈ xs := by
  unfold nth
  rw [List.getD_eq_getElem?_getD, List.getElem?_eq_getElem h]
  exact List.getElem_mem h
theorem nth_set {α : Type} [Inhabited α] {xs : List α} {i : Nat} (y : α) (h : i < xs.length) : nth (xs.set i y) i = y := by
  unfold nth
  rw [List.getD_eq_getElem?_getD, List.getElem?_set_self h]
  rfl
theorem set3 (out : List Place) (i j : Nat) (d : Int × Int) (h : i < out.length) (y1 y2 y3 : Place) (h1 : y1 = ⟨(nth out i).adv, j, (nth out i).x, (nth out i).y⟩)
    (h2 : y2 = ⟨(nth (out.set i y1) i).adv, (nth (out.set i y1) i).on, d.1, (nth (out.set i y1) i).y⟩)
    (h3 : y3 = ⟨(nth ((out.set i y1).set i y2) i).adv, (nth ((out.set i y1).set i y2) i).on, (nth ((out.set i y1).set i y2) i).x, d.2⟩) :
    ((out.set i y1).set i y2).set i y3 = putP out i j d := by
  rw [nth_set _ h] at h2
  rw [nth_set _ (by rw [List.length_set]; exact h)] at h3
  subst h1
  subst h2
  subst h3
  rw [List.set_set, List.set_set]
  rfl

theorem stand_s (f : Font) (l : List Int) (s : Pos) (at' j : Nat) (out : List Place) (hs : PosB s) (hat : at' < l.length) (hj : j < l.length) (hol : out.length = l.length) (hll : l.length ≤ 1000000) :
    LCall Try.prog ⟨0, [], stC f l out s, [], []⟩ 35 [.bx 9 0, .agg [.sl 10, .sl 11, .sl 12], .v (.int .i64 at'), .v (.int .i64 j)] (fun st' v => st'.ch = stC f l (standT l s at' j out).2 s ∧ v = .v (.bool (standT l s at' j out).1)) := by
  refine lcall_exec (cf := cf) cfok (fn := Try.f35) Try.func35 rfl _ _ (stC f l (standT l s at' j out).2 s) (.v (.bool (standT l s at' j out).1)) rfl rfl (by simp [svOkL, svOk]) rfl
    (And.intro ⟨Nat.le_refl _, rfl⟩ (And.intro ⟨Nat.le_refl _, rfl⟩ (And.intro ⟨Nat.le_refl _, rfl⟩ (And.intro ⟨Nat.le_refl _, rfl⟩ (And.intro ⟨Nat.le_refl _, rfl⟩ (And.intro ⟨Nat.le_refl _, rfl⟩ (And.intro ⟨Nat.le_refl _, rfl⟩ (And.intro ⟨Nat.le_refl _, rfl⟩ (And.intro ⟨by rw [standT_len]; exact Nat.le_refl _, rfl⟩ (And.intro trivial (And.intro ⟨Nat.le_refl _, rfl⟩ (And.intro ⟨Nat.le_refl _, rfl⟩ (And.intro ⟨Nat.le_refl _, rfl⟩ trivial))))))))))))) rfl rfl ?_
  refine Or.inl ⟨.int .i64 (mIx l s at'), fun ρ S w hm => markIdx_c f l out at' hat s.marks hs.m _ _ _ w (hm.rd 11 rfl rfl) (hm.rep 40 (.bx 13 0) _ rfl rfl) (hm.rep 3 (.bx 15 0) _ rfl rfl), ?_⟩
  refine Or.inl ⟨.int .i64 (bIx l s j), fun ρ S w hm => baseIdx_c f l out j hj s.bases hs.b _ _ _ w (hm.rd 12 rfl rfl) (hm.rep 40 (.bx 13 0) _ rfl rfl) (hm.rep 3 (.bx 16 0) _ rfl rfl), ?_⟩
  have hN : standD l s at' j = none → standT l s at' j out = (false, out) := fun h => by unfold standT; rw [h]
  have hS : ∀ d, standD l s at' j = some d → standT l s at' j out = (true, putP out at' j d) := fun d h => by unfold standT; rw [h]
  have rm := idxF_range (markP l at') s.marks 0
  have rb := idxF_range (baseP l j) s.bases 0
  unfold standD anN mIx bIx at hN hS
  unfold mIx bIx
  generalize idxF (markP l at') s.marks 0 = m at *
  generalize idxF (baseP l j) s.bases 0 = b at *
  refine Or.inl ⟨by kernel_rfl, ?_⟩
  have hG : ((decide (m < 0) || decide (b < 0)) = false) → (0 ≤ m ∧ m < (s.marks.length : Int)) ∧ (0 ≤ b ∧ b < (s.bases.length : Int)) := fun h => by
    rw [Bool.or_eq_false_iff, decide_eq_false_iff_not, decide_eq_false_iff_not] at h
    omega
  refine And.intro (fun g => (hG g).1) ?_
  refine And.intro (fun g => (hG g).2) ?_
  have hw : ∀ z : Bool, ((decide (m < 0) || decide (b < 0)) || decide (IntKind.i64.wrap (nth s.marks m.toNat).c ≥ ((nth s.bases b.toNat).an.length : Int))) = z →
      (z = true → (m < 0 ∨ b < 0) ∨ ((nth s.bases b.toNat).an.length : Int) ≤ (nth s.marks m.toNat).c) ∧ (z = false → ¬ (m < 0 ∨ b < 0) ∧ ¬ ((nth s.bases b.toNat).an.length : Int) ≤ (nth s.marks m.toNat).c) := fun z hz => by
    subst hz
    by_cases hn : m < 0 ∨ b < 0
    · refine ⟨fun _ => .inl hn, fun h => ?_⟩
      rw [Bool.or_eq_false_iff, Bool.or_eq_false_iff, decide_eq_false_iff_not, decide_eq_false_iff_not] at h
      omega
    · have hmm := hs.c (nth s.marks m.toNat) (nth_mem (by omega))
      rw [i64_id _ (by omega) (by omega), decide_eq_false (by omega : ¬ m < 0), decide_eq_false (by omega : ¬ b < 0), Bool.or_false, Bool.false_or, decide_eq_true_iff, decide_eq_false_iff_not]
      exact ⟨fun h => .inr h, fun h => ⟨hn, h⟩⟩
  refine And.intro (fun hc => ?_) (fun hc => ?_)
  · rw [hN (by
      rcases (hw true hc).1 rfl with h | h
      · rw [if_pos h]
      · by_cases hn : m < 0 ∨ b < 0
        · rw [if_pos hn]
        · rw [if_neg hn, if_pos h])]
    exact ⟨[0, 1, 2, 3, 4, 5, 6, 7, 8, 9, 10, 11, 12], rfl, rfl, rfl, (And.intro (rfl) (And.intro (rfl) (And.intro (rfl) (And.intro (rfl) (And.intro (rfl) (And.intro (rfl) (And.intro (rfl) (And.intro (rfl) (And.intro (rfl) (And.intro (⟨rfl, rfl⟩) (And.intro (rfl) (And.intro (rfl) (And.intro (rfl) trivial))))))))))))), rfl⟩
  obtain ⟨h1, h2⟩ := (hw false hc).2 rfl
  rw [if_neg h1, if_neg h2] at hN hS
  have hmm := hs.c (nth s.marks m.toNat) (nth_mem (by omega))
  refine Or.inr (Or.inr (Or.inl ⟨[0, 1, 2, 3, 4, 5, 6, 7, 8, 9, 10, 11, 12, 13, 14], [14], [15], by kernel_rfl, ?_⟩))
  refine And.intro (show 0 ≤ b ∧ b < (s.bases.length : Int) from by omega) ?_
  refine And.intro (show 0 ≤ m ∧ m < (s.marks.length : Int) from by omega) ?_
  refine And.intro (show 0 ≤ (nth s.marks m.toNat).c ∧ (nth s.marks m.toNat).c < ((nth s.bases b.toNat).an.length : Int) from by omega) ?_
  refine And.intro (fun hh => ?_) (fun hh => ?_)
  · have hh : (!(nth (nth s.bases b.toNat).an (nth s.marks m.toNat).c.toNat).has) = true := hh
    rw [Bool.not_eq_true'] at hh
    rw [hN (by rw [if_neg (fun e => by rw [hh] at e; cases e)])]
    exact ⟨[0, 1, 2, 3, 4, 5, 6, 7, 8, 9, 10, 11, 12], rfl, rfl, rfl, (And.intro (rfl) (And.intro (rfl) (And.intro (rfl) (And.intro (rfl) (And.intro (rfl) (And.intro (rfl) (And.intro (rfl) (And.intro (rfl) (And.intro (rfl) (And.intro (⟨rfl, rfl⟩) (And.intro (rfl) (And.intro (rfl) (And.intro (rfl) trivial))))))))))))), rfl⟩
  have hh : (!(nth (nth s.bases b.toNat).an (nth s.marks m.toNat).c.toNat).has) = false := hh
  rw [Bool.not_eq_false'] at hh
  rw [if_pos hh] at hS
  rw [hS _ rfl]
  refine Or.inl ⟨by kernel_rfl, ?_⟩
  refine And.intro (show (0 : Int) ≤ (at' : Int) ∧ (at' : Int) < (out.length : Int) from ⟨by omega, by omega⟩) ?_
  refine Or.inr (Or.inr (Or.inr ⟨[0, 1, 2, 3, 4, 5, 6, 7, 8, 9, 10, 11, 12, 13, 14, 15, 16, 17, 18, 19, 20, 21, 22, 23, 24, 25], [26, 27, 28, 29, 30, 31], [32, 33, 34], [(8, none)], by kernel_rfl, ?_⟩))
  iterate 10 refine ⟨_, ⟨rfl, rfl⟩, fun xs => ⟨rfl, rfl⟩, ?_⟩
  refine ⟨_, ⟨show 0 ≤ m ∧ m < (s.marks.length : Int) from by omega, rfl, rfl⟩, fun xs => ⟨show 0 ≤ m ∧ m < (s.marks.length : Int) from by omega, rfl, rfl⟩, ?_⟩
  iterate 10 refine ⟨_, ⟨rfl, rfl⟩, fun xs => ⟨rfl, rfl⟩, ?_⟩
  refine ⟨_, ⟨show 0 ≤ m ∧ m < (s.marks.length : Int) from by omega, rfl, rfl⟩, fun xs => ⟨show 0 ≤ m ∧ m < (s.marks.length : Int) from by omega, rfl, rfl⟩, ?_⟩
  iterate 4 refine ⟨_, ⟨rfl, rfl⟩, fun xs => ⟨rfl, rfl⟩, ?_⟩
  refine ⟨rfl, fun xs => rfl, ?_⟩
  refine ⟨rfl, fun xs => rfl, ?_⟩
  refine ⟨(⟨(nth out at').adv, j, (nth out at').x, (nth out at').y⟩ : Place), rfl, rfl, rfl, fun xs => rfl, ?_⟩
  refine ⟨rfl, fun xs => rfl, ?_⟩
  refine ⟨rfl, fun xs => rfl, ?_⟩
  refine ⟨(⟨(nth (out.set at' (⟨(nth out at').adv, j, (nth out at').x, (nth out at').y⟩ : Place)) at').adv, (nth (out.set at' (⟨(nth out at').adv, j, (nth out at').x, (nth out at').y⟩ : Place)) at').on, sub32 (nth (nth s.bases b.toNat).an (nth s.marks m.toNat).c.toNat).x (nth s.marks m.toNat).x, (nth (out.set at' (⟨(nth out at').adv, j, (nth out at').x, (nth out at').y⟩ : Place)) at').y⟩ : Place), rfl, rfl, rfl, fun xs => rfl, ?_⟩
  refine ⟨(⟨(nth ((out.set at' (⟨(nth out at').adv, j, (nth out at').x, (nth out at').y⟩ : Place)).set at' (⟨(nth (out.set at' (⟨(nth out at').adv, j, (nth out at').x, (nth out at').y⟩ : Place)) at').adv, (nth (out.set at' (⟨(nth out at').adv, j, (nth out at').x, (nth out at').y⟩ : Place)) at').on, sub32 (nth (nth s.bases b.toNat).an (nth s.marks m.toNat).c.toNat).x (nth s.marks m.toNat).x, (nth (out.set at' (⟨(nth out at').adv, j, (nth out at').x, (nth out at').y⟩ : Place)) at').y⟩ : Place)) at').adv, (nth ((out.set at' (⟨(nth out at').adv, j, (nth out at').x, (nth out at').y⟩ : Place)).set at' (⟨(nth (out.set at' (⟨(nth out at').adv, j, (nth out at').x, (nth out at').y⟩ : Place)) at').adv, (nth (out.set at' (⟨(nth out at').adv, j, (nth out at').x, (nth out at').y⟩ : Place)) at').on, sub32 (nth (nth s.bases b.toNat).an (nth s.marks m.toNat).c.toNat).x (nth s.marks m.toNat).x, (nth (out.set at' (⟨(nth out at').adv, j, (nth out at').x, (nth out at').y⟩ : Place)) at').y⟩ : Place)) at').on, (nth ((out.set at' (⟨(nth out at').adv, j, (nth out at').x, (nth out at').y⟩ : Place)).set at' (⟨(nth (out.set at' (⟨(nth out at').adv, j, (nth out at').x, (nth out at').y⟩ : Place)) at').adv, (nth (out.set at' (⟨(nth out at').adv, j, (nth out at').x, (nth out at').y⟩ : Place)) at').on, sub32 (nth (nth s.bases b.toNat).an (nth s.marks m.toNat).c.toNat).x (nth s.marks m.toNat).x, (nth (out.set at' (⟨(nth out at').adv, j, (nth out at').x, (nth out at').y⟩ : Place)) at').y⟩ : Place)) at').x, sub32 (nth (nth s.bases b.toNat).an (nth s.marks m.toNat).c.toNat).y (nth s.marks m.toNat).y⟩ : Place), rfl, rfl, ?_⟩
  exact ⟨[0, 1, 2, 3, 4, 5, 6, 7, 8, 9, 10, 11, 12], rfl, rfl, rfl, (And.intro (rfl) (And.intro (rfl) (And.intro (rfl) (And.intro (rfl) (And.intro (rfl) (And.intro (rfl) (And.intro (rfl) (And.intro (rfl) (And.intro (congrArg (fun z => Chunk.own 38 Place inferInstance 4 plE z) (set3 out at' j _ (by omega) _ _ _ rfl rfl rfl)) (And.intro (⟨rfl, rfl⟩) (And.intro (rfl) (And.intro (rfl) (And.intro (rfl) trivial))))))))))))), rfl⟩
end Go.Proofs.Ytaiapnemlnmeiaa
