/- The reference's parser: coverages and points. -/
import Derived.Test.YtjflgkadagkllaaGreatP4
set_option maxRecDepth 100000
set_option linter.unusedVariables false
namespace Go.Proofs.YtjflgkadagkllaaGreat
open Go Go.Eng Go.RowKit
theorem svB {a b : Bool} (h : a = b) : SV.v (.bool a) = SV.v (.bool b) := by rw [h]
def covL (b : List Int) (a g : Int) : List Int := (covX b a g).getD []
theorem covL_len (b : List Int) (a g : Int) : (covL b a g).length <= 65535 := by
 unfold covL
 cases h : covX b a g with
 | none => exact Nat.zero_le _
 | some l => exact (covX_len h).2
theorem rcover_s (b : List Int) (g s a : Int) (q : Bool) (hB : Byt b) (hb : b.length <= 3000) (ha : -10000000 <= a /\ a <= 10000000) (hs : 0 <= s /\ s <= 1000000) : LCall Tryz.prog ⟨0, [], paR b g s q, [], []⟩ 60 [.bx 1 0, .v (.int .i64 a)]
 (fun st' r => st'.ch = paR b g (s + ((covL b a g).length : Int)) ((q || (covX b a g).isNone) || decide (s + ((covL b a g).length : Int) > 65536)) ++ [ow16 (covL b a g)] /\ r = .sl 2) := by
 refine lcall_exec (cf := cf) cfok (fn := Tryz.f60) Tryz.func60 rfl _ _ (paR b g (s + ((covL b a g).length : Int)) ((q || (covX b a g).isNone) || decide (s + ((covL b a g).length : Int) > 65536)) ++ [ow16 (covL b a g)]) (.sl 2) rfl rfl (by simp [svOkL, svOk]) rfl (by exact ⟨⟨Nat.le_refl _, rfl⟩, trivial, trivial⟩) rfl rfl ?_
 have hlen := covL_len b a g
 cases hc : covX b a g with
 | none =>
  have eL : covL b a g = [] := by unfold covL; rw [hc]; rfl
  rw [eL]
  refine Or.inl ⟨by kernel_rfl, ⟨.tuple #[.slice none 0 0, .int .i64 50], fun ρ S w hm => (rcov_c b a g hB (by omega) ha _ w (hm.rd 0 rfl rfl)).mono fun e w' hh => ?_, ?_⟩⟩
  · rcases hh with ⟨_, h1, h2⟩ | ⟨l, u, h1, _⟩
    · exact ⟨h1, h2⟩
    · rw [hc] at h1; cases h1
  refine aI (fun _ => ?_) (fun h => by cases h)
  refine Or.inr (lcall_sub [0, 1] (rcount_s b g s 0 true hs ⟨by omega, by omega⟩) rfl rfl rfl rfl rfl (aI rfl (aI (aI rfl rfl) trivial)) ?_)
  exact ⟨[0, 1, 1000], rfl, rfl, rfl, aI rfl (aI (aI rfl (cells4 rfl rfl rfl (svB (by simp)))) (aI rfl trivial)), rfl⟩
 | some l =>
  have eL : covL b a g = l := by unfold covL; rw [hc]; rfl
  rw [eL] at hlen ⊢
  refine Or.inr (Or.inr (Or.inl ⟨[0, 1, 2, 3, 4, 5, 6, 7, 8, 9, 10, 11, 12, 13, 14], [9], [], by kernel_rfl, ?_⟩))
  refine mcall_fresh2 (t := 34) (sz := 1) (enc := hE) l (.int .i64 0) (fun ρ S w hm => (rcov_c b a g hB (by omega) ha _ w (hm.rd 0 rfl rfl)).mono fun e w' hh => ?_) ?_
  · rcases hh with ⟨h0, _, _⟩ | ⟨l', u, h1, h2, h3, h4⟩
    · rw [hc] at h0; cases h0
    · rw [hc] at h1; cases h1; exact ⟨u, h2, h3, h4⟩
  refine aI (fun h => by cases h) (fun _ => ?_)
  refine Or.inr (lcall_sub [0, 1] (rcount_s b g s (l.length : Int) q hs ⟨by omega, by omega⟩) rfl rfl rfl rfl rfl (aI rfl (aI (aI rfl rfl) trivial)) ?_)
  exact ⟨[0, 1, 2], rfl, rfl, rfl, aI rfl (aI (aI rfl (cells4 rfl rfl rfl (svB (by simp)))) (aI rfl trivial)), rfl⟩
def ptQ (b : List Int) (a s : Int) : Bool := (((outR b a 2 || !decide (wF b a = 1)) || decide (s + 1 > 65536)) || outR b (a + 2) 2) || outR b (a + 4) 2
theorem rpoint_s (b : List Int) (g s a : Int) (q : Bool) (hB : Byt b) (hb : b.length <= 3000) (ha : -10000000 <= a /\ a <= 10000000) (hs : 0 <= s /\ s <= 1000000) : LCall Tryz.prog ⟨0, [], paR b g s q, [], []⟩ 63 [.bx 1 0, .v (.int .i64 a)]
 (fun st' r => st'.ch = paR b g (s + 1) (q || ptQ b a s) /\ r = .tup [.v (.int .i16 (i16 (wF b (a + 2)))), .v (.int .i16 (i16 (wF b (a + 4))))]) := by
 refine lcall_exec (cf := cf) cfok (fn := Tryz.f63) Tryz.func63 rfl _ _ (paR b g (s + 1) (q || ptQ b a s)) (.tup [.v (.int .i16 (i16 (wF b (a + 2)))), .v (.int .i16 (i16 (wF b (a + 4))))]) rfl rfl (by simp [svOkL, svOk]) rfl (by exact ⟨⟨Nat.le_refl _, rfl⟩, trivial, trivial⟩) rfl rfl ?_
 have e0 : IntKind.i64.wrap a = a := i64_id _ (by omega) (by omega)
 have e2 : IntKind.i64.wrap (a + 2) = a + 2 := i64_id _ (by omega) (by omega)
 have e4 : IntKind.i64.wrap (a + 4) = a + 4 := i64_id _ (by omega) (by omega)
 refine Or.inr (lcall_sub [0, 1] (rword_s b g s a q hB hb e0) rfl rfl rfl rfl rfl (aI rfl (aI (aI rfl rfl) trivial)) ?_)
 refine aI (fun h => ?_) (fun h => ?_)
 · have h : (!decide (wF b a = 1)) = true := h
   have eq : (q || ptQ b a s) = (((true || decide (s + 1 > 65536)) || outR b (a + 2) 2) || outR b (a + 4) 2) := by
    unfold ptQ
    rw [h]
    cases q <;> cases outR b a 2 <;> cases decide (s + 1 > 65536) <;> cases outR b (a + 2) 2 <;> cases outR b (a + 4) 2 <;> rfl
   rw [eq]
   refine Or.inr (lcall_sub [0, 1] (rcount_s b g s 1 (true) hs ⟨by omega, by omega⟩) rfl rfl rfl rfl rfl (aI rfl (aI (aI rfl rfl) trivial)) ?_)
   refine Or.inr (lcall_sub [0, 1] (rword_s b g (s + 1) (a + 2) _ hB hb e2) (congrArg (fun z : Int => [SV.bx 1 0, .v (.int .i64 z)]) e2) rfl rfl rfl rfl (aI rfl (aI (aI rfl rfl) trivial)) ?_)
   refine Or.inr (lcall_sub [0, 1] (rword_s b g (s + 1) (a + 4) _ hB hb e4) (congrArg (fun z : Int => [SV.bx 1 0, .v (.int .i64 z)]) e4) rfl rfl rfl rfl (aI rfl (aI (aI rfl rfl) trivial)) ?_)
   exact ⟨[0, 1], rfl, rfl, rfl, (aI rfl (aI (aI rfl rfl) trivial)), rfl⟩
 · have h : (!decide (wF b a = 1)) = false := h
   have eq : (q || ptQ b a s) = ((((q || outR b a 2) || decide (s + 1 > 65536)) || outR b (a + 2) 2) || outR b (a + 4) 2) := by
    unfold ptQ
    rw [h]
    cases q <;> cases outR b a 2 <;> cases decide (s + 1 > 65536) <;> cases outR b (a + 2) 2 <;> cases outR b (a + 4) 2 <;> rfl
   rw [eq]
   refine Or.inr (lcall_sub [0, 1] (rcount_s b g s 1 (q || outR b a 2) hs ⟨by omega, by omega⟩) rfl rfl rfl rfl rfl (aI rfl (aI (aI rfl rfl) trivial)) ?_)
   refine Or.inr (lcall_sub [0, 1] (rword_s b g (s + 1) (a + 2) _ hB hb e2) (congrArg (fun z : Int => [SV.bx 1 0, .v (.int .i64 z)]) e2) rfl rfl rfl rfl (aI rfl (aI (aI rfl rfl) trivial)) ?_)
   refine Or.inr (lcall_sub [0, 1] (rword_s b g (s + 1) (a + 4) _ hB hb e4) (congrArg (fun z : Int => [SV.bx 1 0, .v (.int .i64 z)]) e4) rfl rfl rfl rfl (aI rfl (aI (aI rfl rfl) trivial)) ?_)
   exact ⟨[0, 1], rfl, rfl, rfl, (aI rfl (aI (aI rfl rfl) trivial)), rfl⟩
end Go.Proofs.YtjflgkadagkllaaGreat
