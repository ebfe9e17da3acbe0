/- The reference's marks: the walk. -/
import Derived.Test.YtjflgkadagkllaaGreatP8
set_option maxRecDepth 100000
set_option linter.unusedVariables false
namespace Go.Proofs.YtjflgkadagkllaaGreat
open Go Go.Eng Go.RowKit
structure MR (b : List Int) (g a s0 : Int) where
 ms : List Mark
 bs : List Base
 s : Int
 q : Bool
 hs : 0 <= s /\ s <= 200000
 hq : q = false -> s <= 65536
 e : if q = true then marksX b g a s0 = none else marksX b g a s0 = some (ms, bs, s)
structure Mx (b : List Int) (n f e : Int) (M B : List Int) (X : Option (List Mark × List Base × Int)) where
 i : Nat
 s : Int
 q : Bool
 acc : List Mark
 hi : i <= M.length
 hs : 0 <= s /\ s <= 200000
 hq : q = false -> s <= 65536
 hl : acc.length = i
 e : if q = true then X = none else endX b e n.toNat B (mLoop b n f (M.drop i) i s acc) = X
def eB (ms : List Mark) (r : Option (List Base × Int)) : Option (List Mark × List Base × Int) := match r with | none => none | some (bs, s4) => some (ms, bs, s4)
structure Bx (b : List Int) (e : Int) (n : Nat) (B : List Int) (ms : List Mark) (X : Option (List Mark × List Base × Int)) where
 i : Nat
 s : Int
 q : Bool
 acc : List Base
 hi : i <= B.length
 hs : 0 <= s /\ s <= 200000
 hq : q = false -> s <= 65536
 hl : acc.length = i
 e : if q = true then X = none else eB ms (bLoop b e n (B.drop i) i s acc) = X
def eA (b : List Int) (e : Int) (n i : Nat) (G : Int) (r : List Int) (ms : List Mark) (acc : List Base) (x : Option (List Anchor × Int)) : Option (List Mark × List Base × Int) :=
 eB ms (match x with | none => none | some (an, s') => bLoop b e n r (i + 1) s' (acc ++ [⟨G, an⟩]))
structure Ax (b : List Int) (e : Int) (n i : Nat) (G : Int) (r : List Int) (ms : List Mark) (acc : List Base) (X : Option (List Mark × List Base × Int)) where
 k : Nat
 s : Int
 q : Bool
 an : List Anchor
 hk : k <= n
 hs : 0 <= s /\ s <= 200000
 hq : q = false -> s <= 65536
 hl : an.length = k
 e : if q = true then X = none else eA b e n i G r ms acc (aLoop b e n i (n - k) k s an) = X
theorem endX_end (b : List Int) (e : Int) (n : Nat) (B : List Int) (ms : List Mark) (s : Int) : endX b e n B (some (ms, s)) = eB ms (bLoop b e n (B.drop 0) 0 s []) := by
 unfold endX eB
 rw [List.drop_zero]; rfl
theorem eB_step (b : List Int) (e : Int) (n i : Nat) (G : Int) (r : List Int) (ms : List Mark) (acc : List Base) (s : Int) : eB ms (bLoop b e n (G :: r) i s acc) = eA b e n i G r ms acc (aLoop b e n i (n - 0) 0 s []) := by
 unfold eA
 rw [bLoop, Nat.sub_zero]; rfl
abbrev hRh (b : List Int) (g s : Int) (q : Bool) (M B : List Int) : List Chunk := paR b g s q ++ [nil3, nil3, ow16 M, ow16 B]
abbrev hRm (b : List Int) (g s : Int) (q : Bool) (M B : List Int) (ms : List Mark) : List Chunk := paR b g s q ++ [nil3, .bx 42 [nilS, .sl 6, nilS], ow16 M, ow16 B, owM ms]
abbrev hRb (b : List Int) (g s : Int) (q : Bool) (M B : List Int) (ms : List Mark) (bs : List Base) : List Chunk := paR b g s q ++ [nil3, .bx 42 [nilS, .sl 6, .sl 7], ow16 M, ow16 B, owM ms, owB bs]
abbrev hRn (b : List Int) (g s : Int) (q : Bool) (M B : List Int) (ms : List Mark) (bs : List Base) (G : Int) (an : List Anchor) : List Chunk := hRb b g s q M B ms bs ++ [.bx 49 [.v (.int .u16 G), .sl 9], owA an]
set_option maxHeartbeats 8000000 in
theorem rmarks_s (b : List Int) (g s a : Int) (hB : Byt b) (hb : b.length <= 3000) (ha : 0 <= a /\ a <= 1000000) (hs : 0 <= s /\ s <= 65536) : LCall Tryz.prog ⟨0, [], paR b g s false, [], []⟩ 46 [.bx 1 0, .v (.int .i64 a)]
 (fun st' r => ∃ x : MR b g a s, st'.ch = paR b g x.s x.q ++ [owM x.ms, owB x.bs] /\ r = .agg [nilS, .sl 2, .sl 3]) := by
 refine lcall_execE (cf := cf) cfok (fn := Tryz.f46) Tryz.func46 rfl _ _ (fun x : MR b g a s => paR b g x.s x.q ++ [owM x.ms, owB x.bs]) (fun _ => .agg [nilS, .sl 2, .sl 3]) rfl rfl (by simp [svOkL, svOk]) rfl (fun x => by exact ⟨⟨Nat.le_refl _, rfl⟩, trivial, trivial⟩) (fun _ => rfl) (fun _ => rfl) ?_
 have ec : ∀ c : Int, 0 <= c -> c <= 200000 -> IntKind.i64.wrap (a + c) = a + c := fun c h1 h2 => i64_id _ (by omega) (by omega)
 have ea : IntKind.i64.wrap a = a := i64_id _ (by omega) (by omega)
 have hw2 := wF_range hB (a + 2)
 have hw4 := wF_range hB (a + 4)
 have hw6 := wF_range hB (a + 6)
 have hw8 := wF_range hB (a + 8)
 have hw10 := wF_range hB (a + 10)
 have eo : IntKind.i64.wrap (a + wF b (a + 2)) = a + wF b (a + 2) := ec _ (by omega) (by omega)
 have eo4 : IntKind.i64.wrap (a + wF b (a + 4)) = a + wF b (a + 4) := ec _ (by omega) (by omega)
 have eo8 : IntKind.i64.wrap (a + wF b (a + 8)) = a + wF b (a + 8) := ec _ (by omega) (by omega)
 have eo10 : IntKind.i64.wrap (a + wF b (a + 10)) = a + wF b (a + 10) := ec _ (by omega) (by omega)
 have hX := marks_eq b g a s
 have hq0 : mkH b g a s = false -> s + ((mkM b g a).length : Int) + ((mkB b g a).length : Int) <= 65536 := fun h => by
  unfold mkH at h
  simp only [Bool.or_eq_false_iff, decide_eq_false_iff_not] at h
  have := h.1.1.1.2
  omega
 have hlM : (mkM b g a).length <= 65535 := covL_len b (a + wF b (a + 2)) g
 have hlB : (mkB b g a).length <= 65535 := covL_len b (a + wF b (a + 4)) g
 refine Or.inr (lcall_sub [0, 1] (rword_s b g s (a + 2) false hB hb (i64_id _ (by omega) (by omega))) (congrArg (fun z : Int => [SV.bx 1 0, .v (.int .i64 z)]) (ec 2 (by omega) (by omega))) rfl rfl rfl rfl (aI rfl (aI (aI rfl rfl) trivial)) ?_)
 refine Or.inr (lcall_sub [0, 1] (rcover_s b g s (a + wF b (a + 2)) (false || outR b (a + 2) 2) hB hb ⟨by omega, by omega⟩ ⟨by omega, by omega⟩) (congrArg (fun z : Int => [SV.bx 1 0, .v (.int .i64 z)]) eo) rfl rfl rfl rfl (aI rfl (aI (aI rfl rfl) trivial)) ?_)
 refine subSt_out (paR b g (s + ((mkM b g a).length : Int)) (((false || outR b (a + 2) 2) || (covX b (a + wF b (a + 2)) g).isNone) || decide (s + ((mkM b g a).length : Int) > 65536)) ++ [nil3, nil3, ow16 (mkM b g a)]) [0, 1, 4] rfl rfl ?_
 refine Or.inr (lcall_sub [0, 1] (rword_s b g (s + ((mkM b g a).length : Int)) (a + 4) (((false || outR b (a + 2) 2) || (covX b (a + wF b (a + 2)) g).isNone) || decide (s + ((mkM b g a).length : Int) > 65536)) hB hb (i64_id _ (by omega) (by omega))) (congrArg (fun z : Int => [SV.bx 1 0, .v (.int .i64 z)]) (ec 4 (by omega) (by omega))) rfl rfl rfl rfl (aI rfl (aI (aI rfl rfl) trivial)) ?_)
 refine Or.inr (lcall_sub [0, 1] (rcover_s b g (s + ((mkM b g a).length : Int)) (a + wF b (a + 4)) ((((false || outR b (a + 2) 2) || (covX b (a + wF b (a + 2)) g).isNone) || decide (s + ((mkM b g a).length : Int) > 65536)) || outR b (a + 4) 2) hB hb ⟨by omega, by omega⟩ ⟨by omega, by omega⟩) (congrArg (fun z : Int => [SV.bx 1 0, .v (.int .i64 z)]) eo4) rfl rfl rfl rfl (aI rfl (aI (aI rfl rfl) trivial)) ?_)
 refine subSt_out (hRh b g (s + ((mkM b g a).length : Int) + ((mkB b g a).length : Int)) ((((((false || outR b (a + 2) 2) || (covX b (a + wF b (a + 2)) g).isNone) || decide (s + ((mkM b g a).length : Int) > 65536)) || outR b (a + 4) 2) || (covX b (a + wF b (a + 4)) g).isNone) || decide ((s + ((mkM b g a).length : Int)) + ((mkB b g a).length : Int) > 65536)) (mkM b g a) (mkB b g a)) [0, 1, 5] rfl rfl ?_
 refine Or.inr (lcall_sub [0, 1] (rword_s b g (s + ((mkM b g a).length : Int) + ((mkB b g a).length : Int)) (a + 6) ((((((false || outR b (a + 2) 2) || (covX b (a + wF b (a + 2)) g).isNone) || decide (s + ((mkM b g a).length : Int) > 65536)) || outR b (a + 4) 2) || (covX b (a + wF b (a + 4)) g).isNone) || decide ((s + ((mkM b g a).length : Int)) + ((mkB b g a).length : Int) > 65536)) hB hb (i64_id _ (by omega) (by omega))) (congrArg (fun z : Int => [SV.bx 1 0, .v (.int .i64 z)]) (ec 6 (by omega) (by omega))) rfl rfl rfl rfl (aI rfl (aI (aI rfl rfl) trivial)) ?_)
 refine subSt_out (hRh b g (s + ((mkM b g a).length : Int) + ((mkB b g a).length : Int)) (((((((false || outR b (a + 2) 2) || (covX b (a + wF b (a + 2)) g).isNone) || decide (s + ((mkM b g a).length : Int) > 65536)) || outR b (a + 4) 2) || (covX b (a + wF b (a + 4)) g).isNone) || decide ((s + ((mkM b g a).length : Int)) + ((mkB b g a).length : Int) > 65536)) || outR b (a + 6) 2) (mkM b g a) (mkB b g a)) [0, 1] rfl rfl ?_
 refine Or.inr (lcall_sub [0, 1] (rword_s b g (s + ((mkM b g a).length : Int) + ((mkB b g a).length : Int)) (a + 8) (((((((false || outR b (a + 2) 2) || (covX b (a + wF b (a + 2)) g).isNone) || decide (s + ((mkM b g a).length : Int) > 65536)) || outR b (a + 4) 2) || (covX b (a + wF b (a + 4)) g).isNone) || decide ((s + ((mkM b g a).length : Int)) + ((mkB b g a).length : Int) > 65536)) || outR b (a + 6) 2) hB hb (i64_id _ (by omega) (by omega))) (congrArg (fun z : Int => [SV.bx 1 0, .v (.int .i64 z)]) (ec 8 (by omega) (by omega))) rfl rfl rfl rfl (aI rfl (aI (aI rfl rfl) trivial)) ?_)
 refine subSt_out (hRh b g (s + ((mkM b g a).length : Int) + ((mkB b g a).length : Int)) ((((((((false || outR b (a + 2) 2) || (covX b (a + wF b (a + 2)) g).isNone) || decide (s + ((mkM b g a).length : Int) > 65536)) || outR b (a + 4) 2) || (covX b (a + wF b (a + 4)) g).isNone) || decide ((s + ((mkM b g a).length : Int)) + ((mkB b g a).length : Int) > 65536)) || outR b (a + 6) 2) || outR b (a + 8) 2) (mkM b g a) (mkB b g a)) [0, 1] rfl rfl ?_
 refine Or.inr (lcall_sub [0, 1] (rword_s b g (s + ((mkM b g a).length : Int) + ((mkB b g a).length : Int)) (a + 10) ((((((((false || outR b (a + 2) 2) || (covX b (a + wF b (a + 2)) g).isNone) || decide (s + ((mkM b g a).length : Int) > 65536)) || outR b (a + 4) 2) || (covX b (a + wF b (a + 4)) g).isNone) || decide ((s + ((mkM b g a).length : Int)) + ((mkB b g a).length : Int) > 65536)) || outR b (a + 6) 2) || outR b (a + 8) 2) hB hb (i64_id _ (by omega) (by omega))) (congrArg (fun z : Int => [SV.bx 1 0, .v (.int .i64 z)]) (ec 10 (by omega) (by omega))) rfl rfl rfl rfl (aI rfl (aI (aI rfl rfl) trivial)) ?_)
 refine subSt_out (hRh b g (s + ((mkM b g a).length : Int) + ((mkB b g a).length : Int)) (((((((((false || outR b (a + 2) 2) || (covX b (a + wF b (a + 2)) g).isNone) || decide (s + ((mkM b g a).length : Int) > 65536)) || outR b (a + 4) 2) || (covX b (a + wF b (a + 4)) g).isNone) || decide ((s + ((mkM b g a).length : Int)) + ((mkB b g a).length : Int) > 65536)) || outR b (a + 6) 2) || outR b (a + 8) 2) || outR b (a + 10) 2) (mkM b g a) (mkB b g a)) [0, 1] rfl rfl ?_
 have eqm : (((((((((false || outR b (a + 2) 2) || (covX b (a + wF b (a + 2)) g).isNone) || decide (s + ((mkM b g a).length : Int) > 65536)) || outR b (a + 4) 2) || (covX b (a + wF b (a + 4)) g).isNone) || decide ((s + ((mkM b g a).length : Int)) + ((mkB b g a).length : Int) > 65536)) || outR b (a + 6) 2) || outR b (a + 8) 2) || outR b (a + 10) 2) = mkH b g a s := rfl
 rw [eqm]
 generalize mkM b g a = M at *
 generalize mkB b g a = B at *
 generalize mkH b g a s = q0 at *
 generalize hX' : marksX b g a s = X at *
 obtain ⟨f, hf⟩ : ∃ f, f = a + wF b (a + 8) := ⟨_, rfl⟩
 obtain ⟨e, he⟩ : ∃ e, e = a + wF b (a + 10) := ⟨_, rfl⟩
 obtain ⟨n, hn⟩ : ∃ n, n = wF b (a + 6) := ⟨_, rfl⟩
 have hf0 : 0 <= f /\ f <= 2000000 := by omega
 have he0 : 0 <= e /\ e <= 2000000 := by omega
 have ef : IntKind.i64.wrap (a + wF b (a + 8)) = f := by rw [eo8, hf]
 have ee : IntKind.i64.wrap (a + wF b (a + 10)) = e := by rw [eo10, he]
 unfold mkC at hX
 rw [<- hf, <- he, <- hn] at hX
 rw [<- hn] at hw6
 obtain ⟨s2, hs2e⟩ : ∃ s2, s2 = s + (M.length : Int) + (B.length : Int) := ⟨_, rfl⟩
 rw [<- hs2e] at hX hq0
 rw [<- hs2e]
 have hs2 : 0 <= s2 /\ s2 <= 200000 := by omega
 -- the numbers at the head
 refine Or.inr (lcall_sub [0, 1] (rword_s b g s2 a q0 hB hb ea) rfl rfl rfl rfl rfl (aI rfl (aI (aI rfl rfl) trivial)) ?_)
 refine subSt_out (hRh b g s2 (q0 || outR b a 2) M B) [0, 1] rfl rfl ?_
 have n6 : n = IntKind.i64.wrap n \/ True := Or.inr trivial
 by_cases c1 : (!decide (wF b a = 1) || decide (n < 1)) = true
 · have hXn : X = none := by rw [hX, c1]; simp
   have f1 : ∀ x : Bool, ¬ ((!decide (wF b a = 1) || decide (n < 1)) || x) = false := fun x h => by rw [c1] at h; cases h
   refine Or.inr (Or.inr ⟨fun h => f1 false (by rw [Bool.or_false, hn]; exact h.1), .int .i64 0, ?_⟩)
   refine Or.inr (Or.inr ⟨fun h => f1 _ (by rw [hn]; exact h.1), .int .i64 0, ?_⟩)
   refine aI (fun _ => ?_) (fun h => absurd h (fun h => f1 _ (by rw [hn]; rw [Bool.or_assoc] at h; exact h)))
   refine ⟨Unit, fun _ => ⟨206, [⟨0, [], .bx 1 0⟩, ⟨4, [], .bx 2 0⟩, ⟨5, [], .bx 3 0⟩, ⟨6, [], .sl 4⟩, ⟨7, [], .sl 5⟩, ⟨11, [], .v (.int .i64 0)⟩], hRm b g s2 true M B [], [], dropL nats 7⟩, fun _ => 0, ⟨[0, 1, 2, 3, 4, 5, 1000], (), ?_⟩, fun _ => ?_⟩
   · exact aI (aI rfl (aI rfl (aI rfl (aI rfl (aI rfl (aI rfl trivial)))))) (aI rfl (aI (aI rfl rfl) (aI (aI rfl rfl) (aI (aI rfl rfl) (aI rfl (aI rfl (aI rfl trivial)))))))
   refine aI (fun h => ?_) (fun _ => ?_)
   · have h : (decide ((0 : Int) < (M.length : Int)) && !true) = true := h
     rw [Bool.not_true, Bool.and_false] at h; cases h
   refine ⟨Unit, fun _ => ⟨206, [⟨0, [], .bx 1 0⟩, ⟨4, [], .bx 2 0⟩, ⟨5, [], .bx 3 0⟩, ⟨7, [], .sl 5⟩, ⟨15, [], .v (.int .i64 0)⟩], hRb b g s2 true M B [] [], [], dropL nats 8⟩, fun _ => 0, ⟨[0, 1, 2, 3, 4, 5, 6, 1000], (), ?_⟩, fun _ => ?_⟩
   · exact aI (aI rfl (aI rfl (aI rfl (aI rfl (aI rfl trivial))))) (aI rfl (aI (aI rfl rfl) (aI (aI rfl rfl) (aI (aI rfl rfl) (aI rfl (aI rfl (aI rfl (aI rfl trivial))))))))
   refine aI (fun h => ?_) (fun _ => ?_)
   · have h : (decide ((0 : Int) < (B.length : Int)) && !true) = true := h
     rw [Bool.not_true, Bool.and_false] at h; cases h
   exact ⟨⟨[], [], s2, true, hs2, fun h => (by cases h), by rw [if_pos rfl, hX', hXn]⟩, [0, 1, 6, 7], rfl, rfl, rfl, (aI rfl (aI (aI rfl rfl) (aI rfl (aI rfl trivial)))), rfl⟩
 have c1 : (!decide (wF b a = 1) || decide (n < 1)) = false := by rw [Bool.not_eq_true] at c1; exact c1
 have c1' : (!decide (wF b a = 1) || decide (wF b (a + 6) < 1)) = false := by rw [<- hn]; exact c1
 refine Or.inr (Or.inl ⟨aI c1' trivial, ?_⟩)
 refine Or.inr (lcall_sub [0, 1] (rword_s b g s2 f (q0 || outR b a 2) hB hb (i64_id _ (by omega) (by omega))) (congrArg (fun z : Int => [SV.bx 1 0, .v (.int .i64 z)]) ef) rfl rfl rfl rfl (aI rfl (aI (aI rfl rfl) trivial)) ?_)
 refine subSt_out (hRh b g s2 ((q0 || outR b a 2) || outR b f 2) M B) [0, 1] rfl rfl ?_
 by_cases c2 : (!decide (wF b f = (M.length : Int))) = true
 · have hXn : X = none := by rw [hX, c2]; simp
   have f2 : ∀ x : Bool, ¬ (((!decide (wF b a = 1) || decide (wF b (a + 6) < 1)) || !decide (wF b f = (M.length : Int))) || x) = false := fun x h => by rw [c2, Bool.or_true] at h; cases h
   refine Or.inr (Or.inr ⟨fun h => f2 false (by rw [Bool.or_false]; exact h.1), .int .i64 0, ?_⟩)
   refine aI (fun _ => ?_) (fun h => absurd h (fun h => f2 _ h))
   refine ⟨Unit, fun _ => ⟨206, [⟨0, [], .bx 1 0⟩, ⟨4, [], .bx 2 0⟩, ⟨5, [], .bx 3 0⟩, ⟨6, [], .sl 4⟩, ⟨7, [], .sl 5⟩, ⟨11, [], .v (.int .i64 0)⟩], hRm b g s2 true M B [], [], dropL nats 7⟩, fun _ => 0, ⟨[0, 1, 2, 3, 4, 5, 1000], (), ?_⟩, fun _ => ?_⟩
   · exact aI (aI rfl (aI rfl (aI rfl (aI rfl (aI rfl (aI rfl trivial)))))) (aI rfl (aI (aI rfl rfl) (aI (aI rfl rfl) (aI (aI rfl rfl) (aI rfl (aI rfl (aI rfl trivial)))))))
   refine aI (fun h => ?_) (fun _ => ?_)
   · have h : (decide ((0 : Int) < (M.length : Int)) && !true) = true := h
     rw [Bool.not_true, Bool.and_false] at h; cases h
   refine ⟨Unit, fun _ => ⟨206, [⟨0, [], .bx 1 0⟩, ⟨4, [], .bx 2 0⟩, ⟨5, [], .bx 3 0⟩, ⟨7, [], .sl 5⟩, ⟨15, [], .v (.int .i64 0)⟩], hRb b g s2 true M B [] [], [], dropL nats 8⟩, fun _ => 0, ⟨[0, 1, 2, 3, 4, 5, 6, 1000], (), ?_⟩, fun _ => ?_⟩
   · exact aI (aI rfl (aI rfl (aI rfl (aI rfl (aI rfl trivial))))) (aI rfl (aI (aI rfl rfl) (aI (aI rfl rfl) (aI (aI rfl rfl) (aI rfl (aI rfl (aI rfl (aI rfl trivial))))))))
   refine aI (fun h => ?_) (fun _ => ?_)
   · have h : (decide ((0 : Int) < (B.length : Int)) && !true) = true := h
     rw [Bool.not_true, Bool.and_false] at h; cases h
   exact ⟨⟨[], [], s2, true, hs2, fun h => (by cases h), by rw [if_pos rfl, hX', hXn]⟩, [0, 1, 6, 7], rfl, rfl, rfl, (aI rfl (aI (aI rfl rfl) (aI rfl (aI rfl trivial)))), rfl⟩
 have c2 : (!decide (wF b f = (M.length : Int))) = false := by rw [Bool.not_eq_true] at c2; exact c2
 have t2 : ((!decide (wF b a = 1) || decide (wF b (a + 6) < 1)) || !decide (wF b f = (M.length : Int))) = false := by rw [c1', c2]; rfl
 refine Or.inr (Or.inl ⟨aI t2 trivial, ?_⟩)
 refine Or.inr (lcall_sub [0, 1] (rword_s b g s2 e ((q0 || outR b a 2) || outR b f 2) hB hb (i64_id _ (by omega) (by omega))) (congrArg (fun z : Int => [SV.bx 1 0, .v (.int .i64 z)]) ee) rfl rfl rfl rfl (aI rfl (aI (aI rfl rfl) trivial)) ?_)
 refine subSt_out (hRh b g s2 (((q0 || outR b a 2) || outR b f 2) || outR b e 2) M B) [0, 1] rfl rfl ?_
 refine aI (fun h => ?_) (fun h => ?_)
 · have h : (((!decide (wF b a = 1) || decide (wF b (a + 6) < 1)) || !decide (wF b f = (M.length : Int))) || !decide (wF b e = (B.length : Int))) = true := h
   rw [t2, Bool.false_or] at h
   have hXn : X = none := by rw [hX, h]; simp
   refine ⟨Unit, fun _ => ⟨206, [⟨0, [], .bx 1 0⟩, ⟨4, [], .bx 2 0⟩, ⟨5, [], .bx 3 0⟩, ⟨6, [], .sl 4⟩, ⟨7, [], .sl 5⟩, ⟨11, [], .v (.int .i64 0)⟩], hRm b g s2 true M B [], [], dropL nats 7⟩, fun _ => 0, ⟨[0, 1, 2, 3, 4, 5, 1000], (), ?_⟩, fun _ => ?_⟩
   · exact aI (aI rfl (aI rfl (aI rfl (aI rfl (aI rfl (aI rfl trivial)))))) (aI rfl (aI (aI rfl rfl) (aI (aI rfl rfl) (aI (aI rfl rfl) (aI rfl (aI rfl (aI rfl trivial)))))))
   refine aI (fun h => ?_) (fun _ => ?_)
   · have h : (decide ((0 : Int) < (M.length : Int)) && !true) = true := h
     rw [Bool.not_true, Bool.and_false] at h; cases h
   refine ⟨Unit, fun _ => ⟨206, [⟨0, [], .bx 1 0⟩, ⟨4, [], .bx 2 0⟩, ⟨5, [], .bx 3 0⟩, ⟨7, [], .sl 5⟩, ⟨15, [], .v (.int .i64 0)⟩], hRb b g s2 true M B [] [], [], dropL nats 8⟩, fun _ => 0, ⟨[0, 1, 2, 3, 4, 5, 6, 1000], (), ?_⟩, fun _ => ?_⟩
   · exact aI (aI rfl (aI rfl (aI rfl (aI rfl (aI rfl trivial))))) (aI rfl (aI (aI rfl rfl) (aI (aI rfl rfl) (aI (aI rfl rfl) (aI rfl (aI rfl (aI rfl (aI rfl trivial))))))))
   refine aI (fun h => ?_) (fun _ => ?_)
   · have h : (decide ((0 : Int) < (B.length : Int)) && !true) = true := h
     rw [Bool.not_true, Bool.and_false] at h; cases h
   exact ⟨⟨[], [], s2, true, hs2, fun h => (by cases h), by rw [if_pos rfl, hX', hXn]⟩, [0, 1, 6, 7], rfl, rfl, rfl, (aI rfl (aI (aI rfl rfl) (aI rfl (aI rfl trivial)))), rfl⟩
 have h : (((!decide (wF b a = 1) || decide (wF b (a + 6) < 1)) || !decide (wF b f = (M.length : Int))) || !decide (wF b e = (B.length : Int))) = false := h
 rw [t2, Bool.false_or] at h
 obtain ⟨q, hq⟩ : ∃ q, q = (((q0 || outR b a 2) || outR b f 2) || outR b e 2) := ⟨_, rfl⟩
 rw [<- hq]
 have hXq : if q = true then X = none else endX b e n.toNat B (mLoop b n f (M.drop 0) 0 s2 []) = X := by
  rw [hX, c1, c2, h, Bool.or_false, Bool.or_false, Bool.or_false, List.drop_zero]
  have e1 : (q0 || ((outR b a 2 || outR b f 2) || outR b e 2)) = q := by
   rw [hq]; cases q0 <;> cases outR b a 2 <;> cases outR b f 2 <;> cases outR b e 2 <;> rfl
  rw [e1]
  cases q <;> rfl
 have hq1 : q = false -> s2 <= 65536 := fun h => hq0 (by
  rw [hq] at h
  simp only [Bool.or_eq_false_iff] at h
  exact h.1.1.1)
 have hn1 : 1 <= n := by
  rw [Bool.or_eq_false_iff, decide_eq_false_iff_not] at c1
  omega
 obtain ⟨N, hN⟩ : ∃ N : Nat, (N : Int) = n := ⟨n.toNat, by omega⟩
 have hNt : n.toNat = N := by omega
 refine ⟨Mx b n f e M B X, fun z => ⟨206, [⟨0, [], .bx 1 0⟩, ⟨4, [], .bx 2 0⟩, ⟨5, [], .bx 3 0⟩, ⟨6, [], .sl 4⟩, ⟨7, [], .sl 5⟩, ⟨8, [], .v (.int .i64 (N : Nat))⟩, ⟨9, [], .v (.int .i64 f)⟩, ⟨10, [], .v (.int .i64 e)⟩, ⟨11, [], .v (.int .i64 (z.i : Nat))⟩], hRm b g z.s z.q M B z.acc, [], dropL nats 7⟩, fun z => M.length - z.i, ⟨[0, 1, 2, 3, 4, 5, 1000], ⟨0, _, q, [], by omega, hs2, hq1, rfl, hXq⟩, ?_⟩, fun z => ?_⟩
 · exact aI (aI rfl (aI rfl (aI rfl (aI rfl (aI rfl (aI (svI (by rw [hN, hn])) (aI (svI ef) (aI (svI ee) (aI rfl trivial))))))))) (aI rfl (aI (aI rfl rfl) (aI (aI rfl rfl) (aI (aI rfl rfl) (aI rfl (aI rfl (aI rfl trivial)))))))
 obtain ⟨i, s3, q3, acc, hi, hs3, hq3, hl3, he3⟩ := z
 refine aI (fun hlt => ?_) (fun hge => ?_)
 · have hlt : (decide ((i : Int) < (M.length : Int)) && !q3) = true := hlt
   rw [Bool.and_eq_true, decide_eq_true_iff, Bool.not_eq_true'] at hlt
   obtain ⟨hlt, hqf⟩ := hlt
   subst hqf
   have hs65 := hq3 rfl
   have hlt : i < M.length := by omega
   have he3 : endX b e n.toNat B (mLoop b n f (M.drop i) i s3 acc) = X := he3
   rw [nthD hlt, mLoop_eq] at he3
   have e2 : IntKind.i64.wrap (IntKind.i64.wrap (f + 2) + IntKind.i64.wrap (4 * (i : Int))) = f + 2 + 4 * (i : Int) := by
    rw [i64_id (f + 2) (by omega) (by omega), i64_id (4 * (i : Int)) (by omega) (by omega), i64_id _ (by omega) (by omega)]
   have e4 : IntKind.i64.wrap (IntKind.i64.wrap (f + 4) + IntKind.i64.wrap (4 * (i : Int))) = f + 4 + 4 * (i : Int) := by
    rw [i64_id (f + 4) (by omega) (by omega), i64_id (4 * (i : Int)) (by omega) (by omega), i64_id _ (by omega) (by omega)]
   refine Or.inr (lcall_sub [0, 1] (rword_s b g s3 (f + 2 + 4 * (i : Int)) false hB hb (i64_id _ (by omega) (by omega))) (congrArg (fun z : Int => [SV.bx 1 0, .v (.int .i64 z)]) e2) rfl rfl rfl rfl (aI rfl (aI (aI rfl rfl) trivial)) ?_)
   refine subSt_out (hRm b g s3 (false || outR b (f + 2 + 4 * (i : Int)) 2) M B acc) [0, 1] rfl rfl ?_
   refine Or.inr (lcall_sub [0, 1] (rword_s b g s3 (f + 4 + 4 * (i : Int)) (false || outR b (f + 2 + 4 * (i : Int)) 2) hB hb (i64_id _ (by omega) (by omega))) (congrArg (fun z : Int => [SV.bx 1 0, .v (.int .i64 z)]) e4) rfl rfl rfl rfl (aI rfl (aI (aI rfl rfl) trivial)) ?_)
   refine subSt_out (hRm b g s3 ((false || outR b (f + 2 + 4 * (i : Int)) 2) || outR b (f + 4 + 4 * (i : Int)) 2) M B acc) [0, 1] rfl rfl ?_
   unfold mQ at he3
   have hwx := wF_range hB (f + 4 + 4 * (i : Int))
   obtain ⟨p, hp⟩ : ∃ p, p = f + wF b (f + 4 + 4 * (i : Int)) := ⟨_, rfl⟩
   have ep : IntKind.i64.wrap (f + wF b (f + 4 + 4 * (i : Int))) = p := by rw [hp]; exact i64_id _ (by omega) (by omega)
   rw [<- hp] at he3
   generalize outR b (f + 2 + 4 * (i : Int)) 2 = oA at *
   generalize outR b (f + 4 + 4 * (i : Int)) 2 = oB at *
   refine Or.inr (lcall_sub [0, 1] (rpoint_s b g s3 p ((false || oA) || oB) hB hb ⟨by omega, by omega⟩ ⟨by omega, by omega⟩) (congrArg (fun z : Int => [SV.bx 1 0, .v (.int .i64 z)]) ep) rfl rfl rfl rfl (aI rfl (aI (aI rfl rfl) trivial)) ?_)
   refine subSt_out (hRm b g (s3 + 1) (((false || oA) || oB) || ptQ b p s3) M B acc) [0, 1] rfl rfl ?_
   have hpt : ptQ b p s3 = false -> s3 + 1 <= 65536 := fun h => by
    unfold ptQ at h
    simp only [Bool.or_eq_false_iff, decide_eq_false_iff_not] at h
    have := h.1.1.2
    omega
   generalize ptQ b p s3 = pq at *
   generalize wF b (p + 2) = px at *
   generalize wF b (p + 4) = py at *
   generalize wF b (f + 2 + 4 * (i : Int)) = x at *
   have bi : (0 : Int) <= (i : Int) /\ (i : Int) < (M.length : Int) := ⟨by omega, by omega⟩
   refine aI (fun hc => ?_) (fun hc => ?_)
   · have hc : decide (x >= (N : Int)) = true := hc
     rw [hN] at hc
     rw [hc] at he3
     refine Or.inr (Or.inr (Or.inl ⟨[0, 1, 2, 3, 4, 5, 6, 7, 8, 9, 10, 11], [11], [12, 13, 14], by kernel_rfl, ?_⟩))
     refine aI bi ?_
     refine ⟨[⟨nth M i, IntKind.u16.wrap x, i16 px, i16 py⟩], ⟨rfl, rfl, by simp⟩, by show (acc.length + 1) * 8 <= _; omega, ?_⟩
     exact ⟨[0, 1, 2, 3, 4, 5, 8], ⟨i + 1, s3 + 1, true, acc ++ [⟨nth M i, IntKind.u16.wrap x, i16 px, i16 py⟩], hlt, ⟨by omega, by omega⟩, fun h => (by cases h), by rw [List.length_append]; show acc.length + 1 = _; omega, by
      cases oA <;> cases oB <;> cases pq <;> first | exact he3 | exact he3.symm⟩, aI (aI rfl (aI rfl (aI rfl (aI rfl (aI rfl (aI rfl (aI rfl (aI rfl (aI (svI (i64_succ i (by omega))) trivial))))))))) (aI rfl (aI (aI rfl rfl) (aI (aI rfl rfl) (aI (aI rfl rfl) (aI rfl (aI rfl (aI (owMe rfl) trivial))))))), by show M.length - (i + 1) < M.length - i; omega⟩
   · have hc : decide (x >= (N : Int)) = false := hc
     rw [hN] at hc
     rw [hc] at he3
     refine Or.inr (Or.inr (Or.inl ⟨[0, 1, 2, 3, 4, 5, 6, 7, 8, 9, 10, 11], [11], [12, 13, 14], by kernel_rfl, ?_⟩))
     refine aI bi ?_
     refine ⟨[⟨nth M i, IntKind.u16.wrap x, i16 px, i16 py⟩], ⟨rfl, rfl, by simp⟩, by show (acc.length + 1) * 8 <= _; omega, ?_⟩
     exact ⟨[0, 1, 2, 3, 4, 5, 8], ⟨i + 1, s3 + 1, (((false || oA) || oB) || pq), acc ++ [⟨nth M i, IntKind.u16.wrap x, i16 px, i16 py⟩], hlt, ⟨by omega, by omega⟩, fun h => hpt (by rw [Bool.or_eq_false_iff] at h; exact h.2), by rw [List.length_append]; show acc.length + 1 = _; omega, by
      cases oA <;> cases oB <;> cases pq <;> first | exact he3 | exact he3.symm⟩, aI (aI rfl (aI rfl (aI rfl (aI rfl (aI rfl (aI rfl (aI rfl (aI rfl (aI (svI (i64_succ i (by omega))) trivial))))))))) (aI rfl (aI (aI rfl rfl) (aI (aI rfl rfl) (aI (aI rfl rfl) (aI rfl (aI rfl (aI (owMe rfl) trivial))))))), by show M.length - (i + 1) < M.length - i; omega⟩
 have hge : (decide ((i : Int) < (M.length : Int)) && !q3) = false := hge
 have heB : if q3 = true then X = none else eB acc (bLoop b e N (B.drop 0) 0 s3 []) = X := by
  cases q3 with
  | true => exact he3
  | false =>
   rw [Bool.not_false, Bool.and_true, decide_eq_false_iff_not] at hge
   have : i = M.length := by omega
   subst this
   rw [List.drop_length] at he3
   have he3 : endX b e n.toNat B (some (acc, s3)) = X := he3
   rw [endX_end, hNt] at he3
   exact he3
 refine ⟨Bx b e N B acc X, fun z => ⟨206, [⟨0, [], .bx 1 0⟩, ⟨4, [], .bx 2 0⟩, ⟨5, [], .bx 3 0⟩, ⟨7, [], .sl 5⟩, ⟨8, [], .v (.int .i64 (N : Nat))⟩, ⟨10, [], .v (.int .i64 e)⟩, ⟨15, [], .v (.int .i64 (z.i : Nat))⟩], hRb b g z.s z.q M B acc z.acc, [], dropL nats 8⟩, fun z => B.length - z.i, ⟨[0, 1, 2, 3, 4, 5, 6, 1000], ⟨0, s3, q3, [], by omega, hs3, hq3, rfl, heB⟩, ?_⟩, fun z => ?_⟩
 · exact aI (aI rfl (aI rfl (aI rfl (aI rfl (aI rfl (aI rfl (aI rfl trivial))))))) (aI rfl (aI (aI rfl rfl) (aI (aI rfl rfl) (aI (aI rfl rfl) (aI rfl (aI rfl (aI rfl (aI rfl trivial))))))))
 obtain ⟨j, s4, q4, bs, hj, hs4, hq4, hl4, he4⟩ := z
 refine aI (fun hlt => ?_) (fun hge => ?_)
 rotate_left
 · have hge : (decide ((j : Int) < (B.length : Int)) && !q4) = false := hge
   exact ⟨⟨acc, bs, s4, q4, hs4, hq4, by
    cases q4 with
    | true => rw [if_pos rfl]; exact hX'.trans he4
    | false =>
     rw [Bool.not_false, Bool.and_true, decide_eq_false_iff_not] at hge
     have : j = B.length := by omega
     subst this
     rw [List.drop_length] at he4
     rw [if_neg (by decide), hX']
     exact he4.symm⟩, [0, 1, 6, 7], rfl, rfl, rfl, (aI rfl (aI (aI rfl rfl) (aI rfl (aI rfl trivial)))), rfl⟩
 have hlt : (decide ((j : Int) < (B.length : Int)) && !q4) = true := hlt
 rw [Bool.and_eq_true, decide_eq_true_iff, Bool.not_eq_true'] at hlt
 obtain ⟨hlt, hqf⟩ := hlt
 subst hqf
 have hs65 := hq4 rfl
 have hlt : j < B.length := by omega
 have he4 : eB acc (bLoop b e N (B.drop j) j s4 bs) = X := he4
 rw [nthD hlt, eB_step] at he4
 have bj : (0 : Int) <= (j : Int) /\ (j : Int) < (B.length : Int) := ⟨by omega, by omega⟩
 refine aI bj ?_
 refine ⟨Ax b e N j (nth B j) (B.drop (j + 1)) acc bs X, fun z => ⟨206, [⟨0, [], .bx 1 0⟩, ⟨4, [], .bx 2 0⟩, ⟨5, [], .bx 3 0⟩, ⟨7, [], .sl 5⟩, ⟨8, [], .v (.int .i64 (N : Nat))⟩, ⟨10, [], .v (.int .i64 e)⟩, ⟨15, [], .v (.int .i64 (j : Nat))⟩, ⟨16, [], .bx 8 0⟩, ⟨17, [], .v (.int .i64 (z.k : Nat))⟩], hRn b g z.s z.q M B acc bs (nth B j) z.an, [], dropL nats 10⟩, fun z => N - z.k, ⟨[0, 1, 2, 3, 4, 5, 6, 7, 8, 1000], ⟨0, s4, false, [], by omega, hs4, hq4, rfl, he4⟩, ?_⟩, fun z => ?_⟩
 · exact aI (aI rfl (aI rfl (aI rfl (aI rfl (aI rfl (aI rfl (aI rfl (aI rfl (aI rfl trivial))))))))) (aI rfl (aI (aI rfl rfl) (aI (aI rfl rfl) (aI (aI rfl rfl) (aI rfl (aI rfl (aI rfl (aI rfl (aI (aI rfl rfl) (aI rfl trivial))))))))))
 obtain ⟨k, s5, q5, an, hk, hs5, hq5, hl5, he5⟩ := z
 refine aI (fun hkl => ?_) (fun hkg => ?_)
 rotate_left
 · have hkg : (decide ((k : Int) < (N : Int)) && !q5) = false := hkg
   refine ⟨[⟨nth B j, an⟩], ⟨rfl, rfl, by simp⟩, by show (bs.length + 1) * 32 <= _; omega, ?_⟩
   exact ⟨[0, 1, 2, 3, 4, 5, 6, 11], ⟨j + 1, s5, q5, bs ++ [⟨nth B j, an⟩], hlt, hs5, hq5, by rw [List.length_append]; show bs.length + 1 = _; omega, by
    cases q5 with
    | true => exact he5
    | false =>
     rw [Bool.not_false, Bool.and_true, decide_eq_false_iff_not] at hkg
     have : N - k = 0 := by omega
     rw [this] at he5
     exact he5⟩, aI (aI rfl (aI rfl (aI rfl (aI rfl (aI rfl (aI rfl (aI (svI (i64_succ j (by omega))) trivial))))))) (aI rfl (aI (aI rfl rfl) (aI (aI rfl rfl) (aI (aI rfl rfl) (aI rfl (aI rfl (aI rfl (aI (owBe rfl) trivial)))))))), by show B.length - (j + 1) < B.length - j; omega⟩
 have hkl : (decide ((k : Int) < (N : Int)) && !q5) = true := hkl
 rw [Bool.and_eq_true, decide_eq_true_iff, Bool.not_eq_true'] at hkl
 obtain ⟨hkl, hqf⟩ := hkl
 subst hqf
 have hs65 := hq5 rfl
 have hkl : k < N := by omega
 rw [if_neg (by decide), show N - k = (N - (k + 1)) + 1 by omega, aLoop_eq] at he5
 have hN65 : N <= 65535 := by omega
 have hjN : j * N <= 65535 * 65535 := Nat.mul_le_mul (by omega) hN65
 have eat : IntKind.i64.wrap (IntKind.i64.wrap (e + 2) + IntKind.i64.wrap (2 * IntKind.i64.wrap (IntKind.i64.wrap ((j : Int) * (N : Int)) + (k : Int)))) = aAt e N j k := by
  have h1 : (j : Int) * (N : Int) = ((j * N : Nat) : Int) := by rw [Int.natCast_mul]
  rw [h1]
  unfold aAt
  rw [i64_id ((j * N : Nat) : Int) (by omega) (by omega), i64_id (e + 2) (by omega) (by omega), i64_id (((j * N : Nat) : Int) + (k : Int)) (by omega) (by omega), i64_id (2 * (((j * N : Nat) : Int) + (k : Int))) (by omega) (by omega), i64_id _ (by omega) (by omega)]
  omega
 obtain ⟨A, hA⟩ : ∃ A, A = aAt e N j k := ⟨_, rfl⟩
 have hA0 : 0 <= A /\ A <= 100000000000 := by
  rw [hA]; unfold aAt; omega
 unfold aQ anX at he5
 rw [<- hA] at eat he5
 refine Or.inr (lcall_sub [0, 1] (rword_s b g s5 A false hB hb (i64_id _ (by omega) (by omega))) (congrArg (fun z : Int => [SV.bx 1 0, .v (.int .i64 z)]) eat) rfl rfl rfl rfl (aI rfl (aI (aI rfl rfl) trivial)) ?_)
 refine subSt_out (hRn b g s5 (false || outR b A 2) M B acc bs (nth B j) an ++ [.bx 46 [.v (.bool false), .v (.int .i16 0), .v (.int .i16 0)]]) [0, 1] rfl rfl ?_
 have hwA := wF_range hB A
 generalize outR b A 2 = oA at *
 obtain ⟨y, hy⟩ : ∃ y, y = wF b A := ⟨_, rfl⟩
 rw [<- hy] at hwA he5
 rw [<- hy]
 refine aI (fun hc => ?_) (fun hc => ?_)
 · have hc : (!decide (y = 0)) = true := hc
   rw [Bool.not_eq_true', decide_eq_false_iff_not] at hc
   rw [if_neg hc, if_neg hc] at he5
   obtain ⟨p, hp⟩ : ∃ p, p = e + y := ⟨_, rfl⟩
   have ep : IntKind.i64.wrap (e + y) = p := by rw [hp]; exact i64_id _ (by omega) (by omega)
   rw [<- hp] at he5
   refine Or.inr (lcall_sub [0, 1] (rpoint_s b g s5 p (false || oA) hB hb ⟨by omega, by omega⟩ ⟨by omega, by omega⟩) (congrArg (fun z : Int => [SV.bx 1 0, .v (.int .i64 z)]) ep) rfl rfl rfl rfl (aI rfl (aI (aI rfl rfl) trivial)) ?_)
   refine subSt_out (hRn b g (s5 + 1) ((false || oA) || ptQ b p s5) M B acc bs (nth B j) an ++ [.bx 46 [.v (.bool false), .v (.int .i16 0), .v (.int .i16 0)]]) [0, 1] rfl rfl ?_
   have hpt : ptQ b p s5 = false -> s5 + 1 <= 65536 := fun h => by
    unfold ptQ at h
    simp only [Bool.or_eq_false_iff, decide_eq_false_iff_not] at h
    have := h.1.1.2
    omega
   generalize ptQ b p s5 = pq at *
   refine ⟨[⟨true, i16 (wF b (p + 2)), i16 (wF b (p + 4))⟩], ⟨rfl, rfl, by simp⟩, by show (an.length + 1) * 6 <= _; omega, ?_⟩
   exact ⟨[0, 1, 2, 3, 4, 5, 6, 7, 8, 12], ⟨k + 1, s5 + 1, (false || oA) || pq, an ++ [⟨true, i16 (wF b (p + 2)), i16 (wF b (p + 4))⟩], hkl, ⟨by omega, by omega⟩, fun h => hpt (by rw [Bool.or_eq_false_iff] at h; exact h.2), by rw [List.length_append]; show an.length + 1 = _; omega, by
    cases oA <;> cases pq <;> first | exact he5 | exact he5.symm⟩, aI (aI rfl (aI rfl (aI rfl (aI rfl (aI rfl (aI rfl (aI rfl (aI rfl (aI (svI (i64_succ k (by omega))) trivial))))))))) (aI rfl (aI (aI rfl rfl) (aI (aI rfl rfl) (aI (aI rfl rfl) (aI rfl (aI rfl (aI rfl (aI rfl (aI (aI rfl rfl) (aI (owAe rfl) trivial)))))))))), by show N - (k + 1) < N - k; omega⟩
 have hc : (!decide (y = 0)) = false := hc
 rw [Bool.not_eq_false', decide_eq_true_iff] at hc
 rw [if_pos hc, if_pos hc] at he5
 refine Or.inr (lcall_sub [0, 1] (rcount_s b g s5 1 (false || oA) ⟨by omega, by omega⟩ ⟨by omega, by omega⟩) rfl rfl rfl rfl rfl (aI rfl (aI (aI rfl rfl) trivial)) ?_)
 refine subSt_out (hRn b g (s5 + 1) ((false || oA) || decide (s5 + 1 > 65536)) M B acc bs (nth B j) an ++ [.bx 46 [.v (.bool false), .v (.int .i16 0), .v (.int .i16 0)]]) [0, 1] rfl rfl ?_
 refine ⟨[⟨false, 0, 0⟩], ⟨rfl, rfl, by simp⟩, by show (an.length + 1) * 6 <= _; omega, ?_⟩
 exact ⟨[0, 1, 2, 3, 4, 5, 6, 7, 8, 12], ⟨k + 1, s5 + 1, (false || oA) || decide (s5 + 1 > 65536), an ++ [⟨false, 0, 0⟩], hkl, ⟨by omega, by omega⟩, fun h => (by
  rw [Bool.or_eq_false_iff, decide_eq_false_iff_not] at h
  omega), by rw [List.length_append]; show an.length + 1 = _; omega, by
  cases oA <;> cases hd : decide (s5 + 1 > 65536) <;> rw [hd] at he5 <;> first | exact he5 | exact he5.symm⟩, aI (aI rfl (aI rfl (aI rfl (aI rfl (aI rfl (aI rfl (aI rfl (aI rfl (aI (svI (i64_succ k (by omega))) trivial))))))))) (aI rfl (aI (aI rfl rfl) (aI (aI rfl rfl) (aI (aI rfl rfl) (aI rfl (aI rfl (aI rfl (aI rfl (aI (aI rfl rfl) (aI (owAe rfl) trivial)))))))))), by show N - (k + 1) < N - k; omega⟩
end Go.Proofs.YtjflgkadagkllaaGreat
