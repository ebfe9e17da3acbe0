/- attach.worker.base, mark, and the trier that does nothing. -/
import Derived.Test.YtaiapnemlnmeiaaT6
namespace Go.Proofs.Ytaiapnemlnmeiaa
open Go Go.Eng Go.RowKit

/-- the last place below i where it holds -/
def downN (p : Nat → Bool) : Nat → Option Nat
  | 0 => none
  | n + 1 => if p n = true then some n else downN p n
theorem downN_succ (p : Nat → Bool) (n : Nat) : downN p (n + 1) = if p n = true then some n else downN p n := rfl
theorem downN_lt {p : Nat → Bool} : ∀ {n k : Nat}, downN p n = some k → k < n ∧ p k = true
  | n + 1, k, h => by
    unfold downN at h
    split at h
    · cases h; exact ⟨by omega, by assumption⟩
    · have := downN_lt h; exact ⟨by omega, this.2⟩
def baseP2 (f : Font) (flag : Int) (l : List Int) (j : Nat) : Bool := !passF f flag (nth l j) && !decide (clsF f (nth l j) = 3)
def baseT (f : Font) (l : List Int) (x : Lookup) (s : Pos) (at' : Nat) (out : List Place) : Bool × List Place :=
  match downN (baseP2 f x.flag l) at' with
  | none => (false, out)
  | some j => standT l s at' j out
def markP2 (f : Font) (flag : Int) (l : List Int) (j : Nat) : Bool := !passF f flag (nth l j)
def markT (f : Font) (l : List Int) (x : Lookup) (s : Pos) (at' : Nat) (out : List Place) : Bool × List Place :=
  match downN (markP2 f x.flag l) at' with
  | none => (false, out)
  | some j => if clsF f (nth l j) = 3 then standT l s at' j out else (false, out)
theorem baseT_len (f : Font) (l : List Int) (x : Lookup) (s : Pos) (at' : Nat) (out : List Place) : (baseT f l x s at' out).2.length = out.length := by
  unfold baseT
  split
  · rfl
  · exact standT_len _ _ _ _ _
theorem markT_len (f : Font) (l : List Int) (x : Lookup) (s : Pos) (at' : Nat) (out : List Place) : (markT f l x s at' out).2.length = out.length := by
  unfold markT
  split
  · rfl
  · split
    · exact standT_len _ _ _ _ _
    · rfl
theorem kernT_len (f : Font) (l : List Int) (x : Lookup) (s : Pos) (at' : Nat) (out : List Place) : (kernT f l x s at' out).2.length = out.length := by
  unfold kernT
  split
  · rfl
  · exact addP_len _ _ _

theorem base_s (f : Font) (l : List Int) (x : Lookup) (s : Pos) (at' : Nat) (out : List Place) (hl : U16L l) (hll : l.length ≤ 1000000) (hs : PosB s) (hat : at' < l.length) (hol : out.length = l.length) : TryS 26 f l x s at' out (baseT f l x s at' out) := by
  unfold TryS
  refine lcall_exec (cf := cf) cfok (fn := Try.f26) Try.func26 rfl _ _ (trC f l (baseT f l x s at' out).2 x s) (.v (.bool (baseT f l x s at' out).1)) rfl rfl (by simp [svOkL, svOk]) rfl (tryRel (by rw [baseT_len]; exact Nat.le_refl _)) rfl rfl ?_
  refine ⟨{ i : Nat // i ≤ at' ∧ downN (baseP2 f x.flag l) at' = downN (baseP2 f x.flag l) i }, fun i => ⟨42, [⟨0, [], .bx 9 0⟩, ⟨3, [], .v (.int .i64 at')⟩, ⟨5, [], .bx 15 0⟩, ⟨6, [], .bx 16 0⟩, ⟨9, [], .v (.int .i64 ((i.1 : Int) - 1))⟩], trC f l out x s ++ [.bx 56 [.v (.int .u16 x.ty), .v (.int .u16 x.flag), .sl 10, .sl 11], .bx 52 [.sl 12, .sl 13, .sl 14]], [], dropL nats 17⟩, fun i => i.1,
    ⟨[0, 1, 2, 3, 4, 5, 6, 7, 8, 9, 10, 11, 12, 13, 14, 15, 16], ⟨at', by omega, rfl⟩, ?_⟩, fun i => ?_⟩
  · exact And.intro (And.intro (rfl) (And.intro (rfl) (And.intro (rfl) (And.intro (rfl) (And.intro (svI (i64_id _ (by omega) (by omega))) trivial))))) (And.intro (rfl) (And.intro (rfl) (And.intro (rfl) (And.intro (rfl) (And.intro (rfl) (And.intro (rfl) (And.intro (rfl) (And.intro (rfl) (And.intro (rfl) (And.intro (⟨rfl, rfl⟩) (And.intro (rfl) (And.intro (rfl) (And.intro (rfl) (And.intro (rfl) (And.intro (rfl) (And.intro (⟨rfl, rfl⟩) (And.intro (⟨rfl, rfl⟩) trivial)))))))))))))))))
  obtain ⟨i, hi, hd⟩ := i
  refine And.intro (fun hge => ?_) (fun hlt => ?_)
  · have hge : (i : Int) - 1 ≥ 0 := of_decide_eq_true hge
    obtain ⟨j, rfl⟩ : ∃ j, i = j + 1 := ⟨i - 1, by omega⟩
    have ej : (((j + 1 : Nat) : Int) - 1) = (j : Int) := by omega
    have ejt : (((j + 1 : Nat) : Int) - 1).toNat = j := by omega
    have hj : j < l.length := by omega
    refine Or.inl ⟨by kernel_rfl, ?_⟩
    refine ⟨.bool (passF f x.flag (nth l j)), fun ρ S w hm => ?_, ?_⟩
    · show Calls _ 17 #[_, .int .u16 x.flag, .int .i64 (((j + 1 : Nat) : Int) - 1)] _ _
      rw [ej]
      exact passed_c f l out x.flag j hj hl _ w (hm.rep 40 (.bx 9 0) _ rfl rfl)
    refine And.intro (fun _ => show (0 : Int) ≤ (((j + 1 : Nat) : Int) - 1) ∧ (((j + 1 : Nat) : Int) - 1) < (l.length : Int) from ⟨by omega, by omega⟩) ?_
    refine ⟨.int .u8 (clsF f (nth l j)), fun _ ρ S w hm => ?_, ?_⟩
    · have hg := hl.nth hj
      show Calls _ 29 #[_, .int .u16 (nth l (((j + 1 : Nat) : Int) - 1).toNat)] _ _
      rw [ejt]
      refine class_c f (nth l j) hg.1 hg.2 _ w ⟨_, rfl, ?_⟩
      exact ⟨rfl, rfl, rfl, hm.rd 0 rfl rfl, hm.rd 1 rfl rfl, hm.rd 2 rfl rfl, hm.rd 3 rfl rfl, hm.rd 4 rfl rfl, hm.rd 5 rfl rfl, hm.rd 6 rfl rfl, trivial⟩
    refine And.intro (fun hb => ?_) (fun hb => ?_)
    · have hb : baseP2 f x.flag l j = true := hb
      rw [downN_succ, if_pos hb] at hd
      have hT : baseT f l x s at' out = standT l s at' j out := by unfold baseT; rw [hd]
      rw [hT]
      refine Or.inr (lcall_sub [0, 1, 2, 3, 4, 5, 6, 7, 8, 9, 12, 13, 14] (stand_s f l s at' j out hs hat hj hol hll) (by
        show [SV.bx 9 0, .agg [.sl 12, .sl 13, .sl 14], .v (.int .i64 at'), .v (.int .i64 (((j + 1 : Nat) : Int) - 1))] = _
        rw [ej]; rfl) rfl rfl rfl rfl (And.intro (rfl) (And.intro (rfl) (And.intro (rfl) (And.intro (rfl) (And.intro (rfl) (And.intro (rfl) (And.intro (rfl) (And.intro (rfl) (And.intro (rfl) (And.intro (⟨rfl, rfl⟩) (And.intro (rfl) (And.intro (rfl) (And.intro (rfl) trivial))))))))))))) ?_)
      exact ⟨[0, 1, 2, 3, 4, 5, 6, 7, 8, 9, 10, 11, 12, 13, 14], rfl, rfl, rfl, (And.intro (rfl) (And.intro (rfl) (And.intro (rfl) (And.intro (rfl) (And.intro (rfl) (And.intro (rfl) (And.intro (rfl) (And.intro (rfl) (And.intro (rfl) (And.intro (⟨rfl, rfl⟩) (And.intro (rfl) (And.intro (rfl) (And.intro (rfl) (And.intro (rfl) (And.intro (rfl) trivial))))))))))))))), rfl⟩
    · have hb : baseP2 f x.flag l j = false := hb
      rw [downN_succ, if_neg (fun h => by rw [hb] at h; cases h)] at hd
      exact ⟨[0, 1, 2, 3, 4, 5, 6, 7, 8, 9, 10, 11, 12, 13, 14, 15, 16], ⟨j, by omega, hd⟩, And.intro (And.intro (rfl) (And.intro (rfl) (And.intro (rfl) (And.intro (rfl) (And.intro (svI (by rw [ej]; exact i64_id _ (by omega) (by omega))) trivial))))) (And.intro (rfl) (And.intro (rfl) (And.intro (rfl) (And.intro (rfl) (And.intro (rfl) (And.intro (rfl) (And.intro (rfl) (And.intro (rfl) (And.intro (rfl) (And.intro (⟨rfl, rfl⟩) (And.intro (rfl) (And.intro (rfl) (And.intro (rfl) (And.intro (rfl) (And.intro (rfl) (And.intro (⟨rfl, rfl⟩) (And.intro (⟨rfl, rfl⟩) trivial))))))))))))))))), by show j < j + 1; omega⟩
  · have hlt : ¬ (i : Int) - 1 ≥ 0 := of_decide_eq_false hlt
    have hi0 : i = 0 := by omega
    subst hi0
    have hT : baseT f l x s at' out = (false, out) := by unfold baseT; rw [hd]; rfl
    rw [hT]
    exact ⟨[0, 1, 2, 3, 4, 5, 6, 7, 8, 9, 10, 11, 12, 13, 14], rfl, rfl, rfl, (And.intro (rfl) (And.intro (rfl) (And.intro (rfl) (And.intro (rfl) (And.intro (rfl) (And.intro (rfl) (And.intro (rfl) (And.intro (rfl) (And.intro (rfl) (And.intro (⟨rfl, rfl⟩) (And.intro (rfl) (And.intro (rfl) (And.intro (rfl) (And.intro (rfl) (And.intro (rfl) trivial))))))))))))))), rfl⟩

theorem mark_s (f : Font) (l : List Int) (x : Lookup) (s : Pos) (at' : Nat) (out : List Place) (hl : U16L l) (hll : l.length ≤ 1000000) (hs : PosB s) (hat : at' < l.length) (hol : out.length = l.length) : TryS 27 f l x s at' out (markT f l x s at' out) := by
  unfold TryS
  refine lcall_exec (cf := cf) cfok (fn := Try.f27) Try.func27 rfl _ _ (trC f l (markT f l x s at' out).2 x s) (.v (.bool (markT f l x s at' out).1)) rfl rfl (by simp [svOkL, svOk]) rfl (tryRel (by rw [markT_len]; exact Nat.le_refl _)) rfl rfl ?_
  refine ⟨{ i : Nat // i ≤ at' ∧ downN (markP2 f x.flag l) at' = downN (markP2 f x.flag l) i }, fun i => ⟨42, [⟨0, [], .bx 9 0⟩, ⟨3, [], .v (.int .i64 at')⟩, ⟨5, [], .bx 15 0⟩, ⟨6, [], .bx 16 0⟩, ⟨9, [], .v (.int .i64 ((i.1 : Int) - 1))⟩], trC f l out x s ++ [.bx 56 [.v (.int .u16 x.ty), .v (.int .u16 x.flag), .sl 10, .sl 11], .bx 52 [.sl 12, .sl 13, .sl 14]], [], dropL nats 17⟩, fun i => i.1,
    ⟨[0, 1, 2, 3, 4, 5, 6, 7, 8, 9, 10, 11, 12, 13, 14, 15, 16], ⟨at', by omega, rfl⟩, ?_⟩, fun i => ?_⟩
  · exact And.intro (And.intro (rfl) (And.intro (rfl) (And.intro (rfl) (And.intro (rfl) (And.intro (svI (i64_id _ (by omega) (by omega))) trivial))))) (And.intro (rfl) (And.intro (rfl) (And.intro (rfl) (And.intro (rfl) (And.intro (rfl) (And.intro (rfl) (And.intro (rfl) (And.intro (rfl) (And.intro (rfl) (And.intro (⟨rfl, rfl⟩) (And.intro (rfl) (And.intro (rfl) (And.intro (rfl) (And.intro (rfl) (And.intro (rfl) (And.intro (⟨rfl, rfl⟩) (And.intro (⟨rfl, rfl⟩) trivial)))))))))))))))))
  obtain ⟨i, hi, hd⟩ := i
  refine And.intro (fun hge => ?_) (fun hlt => ?_)
  · have hge : (i : Int) - 1 ≥ 0 := of_decide_eq_true hge
    obtain ⟨j, rfl⟩ : ∃ j, i = j + 1 := ⟨i - 1, by omega⟩
    have ej : (((j + 1 : Nat) : Int) - 1) = (j : Int) := by omega
    have ejt : (((j + 1 : Nat) : Int) - 1).toNat = j := by omega
    have hj : j < l.length := by omega
    refine Or.inl ⟨.bool (passF f x.flag (nth l j)), fun ρ S w hm => ?_, ?_⟩
    · show Calls _ 17 #[_, .int .u16 x.flag, .int .i64 (((j + 1 : Nat) : Int) - 1)] _ _
      rw [ej]
      exact passed_c f l out x.flag j hj hl _ w (hm.rep 40 (.bx 9 0) _ rfl rfl)
    refine And.intro (fun hb => ?_) (fun hb => ?_)
    · have hb : markP2 f x.flag l j = true := hb
      rw [downN_succ, if_pos hb] at hd
      have hT : markT f l x s at' out = if clsF f (nth l j) = 3 then standT l s at' j out else (false, out) := by unfold markT; rw [hd]
      refine Or.inr (Or.inr (Or.inl ⟨[0, 1, 2, 3, 4, 5, 6, 7, 8, 9, 10, 11, 12, 13, 14, 15, 16, 17], [], [18, 19, 20], by kernel_rfl, ?_⟩))
      refine And.intro (show (0 : Int) ≤ (((j + 1 : Nat) : Int) - 1) ∧ (((j + 1 : Nat) : Int) - 1) < (l.length : Int) from ⟨by omega, by omega⟩) ?_
      refine ⟨.int .u8 (clsF f (nth l j)), fun ρ S w hm => ?_, ?_⟩
      · have hg := hl.nth hj
        show Calls _ 29 #[_, .int .u16 (nth l (((j + 1 : Nat) : Int) - 1).toNat)] _ _
        rw [ejt]
        refine class_c f (nth l j) hg.1 hg.2 _ w ⟨_, rfl, ?_⟩
        exact ⟨rfl, rfl, rfl, hm.rd 0 rfl rfl, hm.rd 1 rfl rfl, hm.rd 2 rfl rfl, hm.rd 3 rfl rfl, hm.rd 4 rfl rfl, hm.rd 5 rfl rfl, hm.rd 6 rfl rfl, trivial⟩
      by_cases hc : clsF f (nth l j) = 3
      · rw [if_pos hc] at hT
        rw [hT]
        refine Or.inr (Or.inl ⟨And.intro (decide_eq_true hc) trivial, ?_⟩)
        refine Or.inr (lcall_sub [0, 1, 2, 3, 4, 5, 6, 7, 8, 9, 12, 13, 14] (stand_s f l s at' j out hs hat hj hol hll) (by
          show [SV.bx 9 0, .agg [.sl 12, .sl 13, .sl 14], .v (.int .i64 at'), .v (.int .i64 (((j + 1 : Nat) : Int) - 1))] = _
          rw [ej]; rfl) rfl rfl rfl rfl (And.intro (rfl) (And.intro (rfl) (And.intro (rfl) (And.intro (rfl) (And.intro (rfl) (And.intro (rfl) (And.intro (rfl) (And.intro (rfl) (And.intro (rfl) (And.intro (⟨rfl, rfl⟩) (And.intro (rfl) (And.intro (rfl) (And.intro (rfl) trivial))))))))))))) ?_)
        exact ⟨[0, 1, 2, 3, 4, 5, 6, 7, 8, 9, 10, 11, 12, 13, 14], rfl, rfl, rfl, (And.intro (rfl) (And.intro (rfl) (And.intro (rfl) (And.intro (rfl) (And.intro (rfl) (And.intro (rfl) (And.intro (rfl) (And.intro (rfl) (And.intro (rfl) (And.intro (⟨rfl, rfl⟩) (And.intro (rfl) (And.intro (rfl) (And.intro (rfl) (And.intro (rfl) (And.intro (rfl) trivial))))))))))))))), congrArg (fun b => SV.v (.bool b)) (by show (decide (clsF f (nth l j) = 3) && _) = _; rw [decide_eq_true hc]; rfl)⟩
      · rw [if_neg hc] at hT
        rw [hT]
        refine Or.inr (Or.inr ⟨fun h => hc (of_decide_eq_true h.1), .bool false, ?_⟩)
        exact ⟨[0, 1, 2, 3, 4, 5, 6, 7, 8, 9, 10, 11, 12, 13, 14], rfl, rfl, rfl, (And.intro (rfl) (And.intro (rfl) (And.intro (rfl) (And.intro (rfl) (And.intro (rfl) (And.intro (rfl) (And.intro (rfl) (And.intro (rfl) (And.intro (rfl) (And.intro (⟨rfl, rfl⟩) (And.intro (rfl) (And.intro (rfl) (And.intro (rfl) (And.intro (rfl) (And.intro (rfl) trivial))))))))))))))), congrArg (fun b => SV.v (.bool b)) (by show (decide (clsF f (nth l j) = 3) && _) = _; rw [decide_eq_false hc]; rfl)⟩
    · have hb : markP2 f x.flag l j = false := hb
      rw [downN_succ, if_neg (fun h => by rw [hb] at h; cases h)] at hd
      exact ⟨[0, 1, 2, 3, 4, 5, 6, 7, 8, 9, 10, 11, 12, 13, 14, 15, 16], ⟨j, by omega, hd⟩, And.intro (And.intro (rfl) (And.intro (rfl) (And.intro (rfl) (And.intro (rfl) (And.intro (svI (by rw [ej]; exact i64_id _ (by omega) (by omega))) trivial))))) (And.intro (rfl) (And.intro (rfl) (And.intro (rfl) (And.intro (rfl) (And.intro (rfl) (And.intro (rfl) (And.intro (rfl) (And.intro (rfl) (And.intro (rfl) (And.intro (⟨rfl, rfl⟩) (And.intro (rfl) (And.intro (rfl) (And.intro (rfl) (And.intro (rfl) (And.intro (rfl) (And.intro (⟨rfl, rfl⟩) (And.intro (⟨rfl, rfl⟩) trivial))))))))))))))))), by show j < j + 1; omega⟩
  · have hlt : ¬ (i : Int) - 1 ≥ 0 := of_decide_eq_false hlt
    have hi0 : i = 0 := by omega
    subst hi0
    have hT : markT f l x s at' out = (false, out) := by unfold markT; rw [hd]; rfl
    rw [hT]
    exact ⟨[0, 1, 2, 3, 4, 5, 6, 7, 8, 9, 10, 11, 12, 13, 14], rfl, rfl, rfl, (And.intro (rfl) (And.intro (rfl) (And.intro (rfl) (And.intro (rfl) (And.intro (rfl) (And.intro (rfl) (And.intro (rfl) (And.intro (rfl) (And.intro (rfl) (And.intro (⟨rfl, rfl⟩) (And.intro (rfl) (And.intro (rfl) (And.intro (rfl) (And.intro (rfl) (And.intro (rfl) trivial))))))))))))))), rfl⟩
end Go.Proofs.Ytaiapnemlnmeiaa
