/- The reference's kerns: the walk. -/
import Derived.Test.YtjflgkadagkllaaGreatP6
set_option maxRecDepth 100000
set_option linter.unusedVariables false
namespace Go.Proofs.YtjflgkadagkllaaGreat
open Go Go.Eng Go.RowKit
structure KR (b : List Int) (g a s0 : Int) where
 ks : List Kern
 s : Int
 q : Bool
 hs : 0 <= s /\ s <= 200000
 hq : q = false -> s <= 65536
 e : if q = true then pairsX b g a s0 = none else pairsX b g a s0 = some (ks, s)
structure Kx (b : List Int) (g a : Int) (l : List Int) (X : Option (List Kern × Int)) where
 i : Nat
 s : Int
 q : Bool
 acc : List Kern
 hi : i <= l.length
 hs : 0 <= s /\ s <= 200000
 hq : q = false -> s <= 65536
 hl : (acc.length : Int) <= s
 e : if q = true then X = none else pLoop b g a (l.drop i) i s acc = X
structure Ky (b : List Int) (g a t A : Int) (k i : Nat) (l : List Int) (X : Option (List Kern × Int)) where
 j : Nat
 s : Int
 q : Bool
 last : Int
 acc : List Kern
 hj : j <= k
 hs : 0 <= s /\ s <= 200000
 hq : q = false -> s <= 65536
 hl : (acc.length : Int) <= s
 e : if q = true then X = none else (match kLoop b g t A (k - j) j last s acc with | none => none | some (acc', s') => pLoop b g a (l.drop (i + 1)) (i + 1) s' acc') = X
abbrev hRk (b : List Int) (g s : Int) (q : Bool) (l : List Int) : List Chunk := paR b g s q ++ [nil3, nil3, ow16 l]
abbrev hRa (b : List Int) (g s : Int) (q : Bool) (l : List Int) (acc : List Kern) : List Chunk := paR b g s q ++ [nil3, .bx 42 [.sl 5, nilS, nilS], ow16 l, owK acc]
set_option maxHeartbeats 4000000 in
theorem rkerns_s (b : List Int) (g s a : Int) (hB : Byt b) (hb : b.length <= 3000) (ha : 0 <= a /\ a <= 1000000) (hs : 0 <= s /\ s <= 65536) : LCall Tryz.prog ⟨0, [], paR b g s false, [], []⟩ 45 [.bx 1 0, .v (.int .i64 a)]
 (fun st' r => ∃ x : KR b g a s, st'.ch = paR b g x.s x.q ++ [owK x.ks] /\ r = .agg [.sl 2, nilS, nilS]) := by
 refine lcall_execE (cf := cf) cfok (fn := Tryz.f45) Tryz.func45 rfl _ _ (fun x : KR b g a s => paR b g x.s x.q ++ [owK x.ks]) (fun _ => .agg [.sl 2, nilS, nilS]) rfl rfl (by simp [svOkL, svOk]) rfl (fun x => by exact ⟨⟨Nat.le_refl _, rfl⟩, trivial, trivial⟩) (fun _ => rfl) (fun _ => rfl) ?_
 have ec : ∀ c : Int, 0 <= c -> c <= 200000 -> IntKind.i64.wrap (a + c) = a + c := fun c h1 h2 => i64_id _ (by omega) (by omega)
 have ea : IntKind.i64.wrap a = a := i64_id _ (by omega) (by omega)
 have hw2 := wF_range hB (a + 2)
 have eo : IntKind.i64.wrap (a + wF b (a + 2)) = a + wF b (a + 2) := ec _ (by omega) (by omega)
 have hX := pairs_eq b g a s
 have hq0 : hdQ b g a s = false -> s + ((covL b (a + wF b (a + 2)) g).length : Int) <= 65536 := fun h => by
  unfold hdQ at h
  rw [Bool.or_eq_false_iff, decide_eq_false_iff_not] at h
  omega
 have hll := covL_len b (a + wF b (a + 2)) g
 refine Or.inr (lcall_sub [0, 1] (rword_s b g s (a + 2) false hB hb (ec 2 (by omega) (by omega))) (congrArg (fun z : Int => [SV.bx 1 0, .v (.int .i64 z)]) (ec 2 (by omega) (by omega))) rfl rfl rfl rfl (aI rfl (aI (aI rfl rfl) trivial)) ?_)
 refine Or.inr (lcall_sub [0, 1] (rcover_s b g s (a + wF b (a + 2)) _ hB hb ⟨by omega, by omega⟩ ⟨by omega, by omega⟩) (congrArg (fun z : Int => [SV.bx 1 0, .v (.int .i64 z)]) eo) rfl rfl rfl rfl (aI rfl (aI (aI rfl rfl) trivial)) ?_)
 refine subSt_out (hRk b g (s + ((covL b (a + wF b (a + 2)) g).length : Int)) (hdQ b g a s) (covL b (a + wF b (a + 2)) g)) [0, 1, 4] rfl rfl ?_
 generalize covL b (a + wF b (a + 2)) g = l at *
 generalize hdQ b g a s = q0 at *
 generalize hX' : pairsX b g a s = X at *
 have pa : ∀ c : Int, c = 0 \/ c = 4 \/ c = 6 \/ c = 8 -> IntKind.i64.wrap (a + c) = a + c := fun c h => ec c (by omega) (by omega)
 -- the four numbers at the head
 refine Or.inr (lcall_sub [0, 1] (rword_s b g (s + (l.length : Int)) a q0 hB hb ea) rfl rfl rfl rfl rfl (aI rfl (aI (aI rfl rfl) trivial)) ?_)
 refine subSt_out (hRk b g (s + (l.length : Int)) (q0 || outR b a 2) l) [0, 1] rfl rfl ?_
 by_cases c1 : (!decide (wF b a = 1)) = true
 · have hXn : X = none := by rw [hX]; unfold qC; rw [c1]; simp
   have f1 : ∀ x : Bool, ¬ ((!decide (wF b a = 1)) || x) = false := fun x h => by rw [c1] at h; cases h
   refine Or.inr (Or.inr ⟨fun h => f1 false (by rw [Bool.or_false]; exact h.1), .int .i64 0, ?_⟩)
   refine Or.inr (Or.inr ⟨fun h => f1 _ h.1, .int .i64 0, ?_⟩)
   refine Or.inr (Or.inr ⟨fun h => f1 _ (by have := h.1; rw [Bool.or_assoc] at this; exact this), .int .i64 0, ?_⟩)
   refine aI (fun _ => ?_) (fun h => absurd h (fun h => f1 _ (by rw [Bool.or_assoc, Bool.or_assoc] at h; exact h)))
   refine ⟨Unit, fun _ => ⟨142, [⟨0, [], .bx 1 0⟩, ⟨4, [], .bx 2 0⟩, ⟨5, [], .bx 3 0⟩, ⟨6, [], .sl 4⟩, ⟨7, [], .v (.int .i64 0)⟩], hRa b g (s + (l.length : Int)) true l [], [], dropL nats 6⟩, fun _ => 0, ⟨[0, 1, 2, 3, 4, 1000], (), ?_⟩, fun _ => ?_⟩
   · exact aI (aI rfl (aI rfl (aI rfl (aI rfl (aI rfl trivial))))) (aI rfl (aI (aI rfl rfl) (aI (aI rfl rfl) (aI (aI rfl rfl) (aI rfl (aI rfl trivial))))))
   refine aI (fun h => ?_) (fun _ => ?_)
   · have h : (decide ((0 : Int) < (l.length : Int)) && !true) = true := h
     rw [Bool.not_true, Bool.and_false] at h; cases h
   exact ⟨⟨[], s + (l.length : Int), true, ⟨by omega, by omega⟩, fun h => (by cases h), by rw [if_pos rfl, hX', hXn]⟩, [0, 1, 5], rfl, rfl, rfl, (aI rfl (aI (aI rfl rfl) (aI rfl trivial))), rfl⟩
 have c1 : (!decide (wF b a = 1)) = false := by rw [Bool.not_eq_true] at c1; exact c1
 have t1 : (!decide (wF b a = 1)) = false := by rw [c1]
 refine Or.inr (Or.inl ⟨aI t1 trivial, ?_⟩)
 refine Or.inr (lcall_sub [0, 1] (rword_s b g (s + (l.length : Int)) (a + 4) (q0 || outR b a 2) hB hb (pa 4 (by omega))) (congrArg (fun z : Int => [SV.bx 1 0, .v (.int .i64 z)]) (pa 4 (by omega))) rfl rfl rfl rfl (aI rfl (aI (aI rfl rfl) trivial)) ?_)
 refine subSt_out (hRk b g (s + (l.length : Int)) ((q0 || outR b a 2) || outR b (a + 4) 2) l) [0, 1] rfl rfl ?_
 by_cases c2 : (!decide (wF b (a + 4) = 4)) = true
 · have hXn : X = none := by rw [hX]; unfold qC; rw [c2]; simp
   have f2 : ∀ x : Bool, ¬ (((!decide (wF b a = 1)) || (!decide (wF b (a + 4) = 4))) || x) = false := fun x h => by rw [c2, Bool.or_true] at h; cases h
   refine Or.inr (Or.inr ⟨fun h => f2 false (by rw [Bool.or_false]; exact h.1), .int .i64 0, ?_⟩)
   refine Or.inr (Or.inr ⟨fun h => f2 _ h.1, .int .i64 0, ?_⟩)
   refine aI (fun _ => ?_) (fun h => absurd h (fun h => f2 _ (by rw [Bool.or_assoc] at h; exact h)))
   refine ⟨Unit, fun _ => ⟨142, [⟨0, [], .bx 1 0⟩, ⟨4, [], .bx 2 0⟩, ⟨5, [], .bx 3 0⟩, ⟨6, [], .sl 4⟩, ⟨7, [], .v (.int .i64 0)⟩], hRa b g (s + (l.length : Int)) true l [], [], dropL nats 6⟩, fun _ => 0, ⟨[0, 1, 2, 3, 4, 1000], (), ?_⟩, fun _ => ?_⟩
   · exact aI (aI rfl (aI rfl (aI rfl (aI rfl (aI rfl trivial))))) (aI rfl (aI (aI rfl rfl) (aI (aI rfl rfl) (aI (aI rfl rfl) (aI rfl (aI rfl trivial))))))
   refine aI (fun h => ?_) (fun _ => ?_)
   · have h : (decide ((0 : Int) < (l.length : Int)) && !true) = true := h
     rw [Bool.not_true, Bool.and_false] at h; cases h
   exact ⟨⟨[], s + (l.length : Int), true, ⟨by omega, by omega⟩, fun h => (by cases h), by rw [if_pos rfl, hX', hXn]⟩, [0, 1, 5], rfl, rfl, rfl, (aI rfl (aI (aI rfl rfl) (aI rfl trivial))), rfl⟩
 have c2 : (!decide (wF b (a + 4) = 4)) = false := by rw [Bool.not_eq_true] at c2; exact c2
 have t2 : ((!decide (wF b a = 1)) || (!decide (wF b (a + 4) = 4))) = false := by rw [c1, c2]; rfl
 refine Or.inr (Or.inl ⟨aI t2 trivial, ?_⟩)
 refine Or.inr (lcall_sub [0, 1] (rword_s b g (s + (l.length : Int)) (a + 6) ((q0 || outR b a 2) || outR b (a + 4) 2) hB hb (pa 6 (by omega))) (congrArg (fun z : Int => [SV.bx 1 0, .v (.int .i64 z)]) (pa 6 (by omega))) rfl rfl rfl rfl (aI rfl (aI (aI rfl rfl) trivial)) ?_)
 refine subSt_out (hRk b g (s + (l.length : Int)) (((q0 || outR b a 2) || outR b (a + 4) 2) || outR b (a + 6) 2) l) [0, 1] rfl rfl ?_
 by_cases c3 : (!decide (wF b (a + 6) = 0)) = true
 · have hXn : X = none := by rw [hX]; unfold qC; rw [c3]; simp
   have f3 : ∀ x : Bool, ¬ ((((!decide (wF b a = 1)) || (!decide (wF b (a + 4) = 4))) || (!decide (wF b (a + 6) = 0))) || x) = false := fun x h => by rw [c3, Bool.or_true] at h; cases h
   refine Or.inr (Or.inr ⟨fun h => f3 false (by rw [Bool.or_false]; exact h.1), .int .i64 0, ?_⟩)
   refine aI (fun _ => ?_) (fun h => absurd h (fun h => f3 _ h))
   refine ⟨Unit, fun _ => ⟨142, [⟨0, [], .bx 1 0⟩, ⟨4, [], .bx 2 0⟩, ⟨5, [], .bx 3 0⟩, ⟨6, [], .sl 4⟩, ⟨7, [], .v (.int .i64 0)⟩], hRa b g (s + (l.length : Int)) true l [], [], dropL nats 6⟩, fun _ => 0, ⟨[0, 1, 2, 3, 4, 1000], (), ?_⟩, fun _ => ?_⟩
   · exact aI (aI rfl (aI rfl (aI rfl (aI rfl (aI rfl trivial))))) (aI rfl (aI (aI rfl rfl) (aI (aI rfl rfl) (aI (aI rfl rfl) (aI rfl (aI rfl trivial))))))
   refine aI (fun h => ?_) (fun _ => ?_)
   · have h : (decide ((0 : Int) < (l.length : Int)) && !true) = true := h
     rw [Bool.not_true, Bool.and_false] at h; cases h
   exact ⟨⟨[], s + (l.length : Int), true, ⟨by omega, by omega⟩, fun h => (by cases h), by rw [if_pos rfl, hX', hXn]⟩, [0, 1, 5], rfl, rfl, rfl, (aI rfl (aI (aI rfl rfl) (aI rfl trivial))), rfl⟩
 have c3 : (!decide (wF b (a + 6) = 0)) = false := by rw [Bool.not_eq_true] at c3; exact c3
 have t3 : (((!decide (wF b a = 1)) || (!decide (wF b (a + 4) = 4))) || (!decide (wF b (a + 6) = 0))) = false := by rw [c1, c2, c3]; rfl
 refine Or.inr (Or.inl ⟨aI t3 trivial, ?_⟩)
 refine Or.inr (lcall_sub [0, 1] (rword_s b g (s + (l.length : Int)) (a + 8) (((q0 || outR b a 2) || outR b (a + 4) 2) || outR b (a + 6) 2) hB hb (pa 8 (by omega))) (congrArg (fun z : Int => [SV.bx 1 0, .v (.int .i64 z)]) (pa 8 (by omega))) rfl rfl rfl rfl (aI rfl (aI (aI rfl rfl) trivial)) ?_)
 refine subSt_out (hRk b g (s + (l.length : Int)) ((((q0 || outR b a 2) || outR b (a + 4) 2) || outR b (a + 6) 2) || outR b (a + 8) 2) l) [0, 1] rfl rfl ?_
 refine aI (fun h => ?_) (fun h => ?_)
 · have h : ((((!decide (wF b a = 1)) || (!decide (wF b (a + 4) = 4))) || (!decide (wF b (a + 6) = 0))) || (!decide (wF b (a + 8) = (l.length : Int)))) = true := h
   rw [t3, Bool.false_or] at h
   have hXn : X = none := by rw [hX]; unfold qC; rw [h]; simp
   refine ⟨Unit, fun _ => ⟨142, [⟨0, [], .bx 1 0⟩, ⟨4, [], .bx 2 0⟩, ⟨5, [], .bx 3 0⟩, ⟨6, [], .sl 4⟩, ⟨7, [], .v (.int .i64 0)⟩], hRa b g (s + (l.length : Int)) true l [], [], dropL nats 6⟩, fun _ => 0, ⟨[0, 1, 2, 3, 4, 1000], (), ?_⟩, fun _ => ?_⟩
   · exact aI (aI rfl (aI rfl (aI rfl (aI rfl (aI rfl trivial))))) (aI rfl (aI (aI rfl rfl) (aI (aI rfl rfl) (aI (aI rfl rfl) (aI rfl (aI rfl trivial))))))
   refine aI (fun h => ?_) (fun _ => ?_)
   · have h : (decide ((0 : Int) < (l.length : Int)) && !true) = true := h
     rw [Bool.not_true, Bool.and_false] at h; cases h
   exact ⟨⟨[], s + (l.length : Int), true, ⟨by omega, by omega⟩, fun h => (by cases h), by rw [if_pos rfl, hX', hXn]⟩, [0, 1, 5], rfl, rfl, rfl, (aI rfl (aI (aI rfl rfl) (aI rfl trivial))), rfl⟩
 have h : ((((!decide (wF b a = 1)) || (!decide (wF b (a + 4) = 4))) || (!decide (wF b (a + 6) = 0))) || (!decide (wF b (a + 8) = (l.length : Int)))) = false := h
 rw [t3, Bool.false_or] at h
 obtain ⟨q, hq⟩ : ∃ q, q = ((((q0 || outR b a 2) || outR b (a + 4) 2) || outR b (a + 6) 2) || outR b (a + 8) 2) := ⟨_, rfl⟩
 rw [<- hq]
 have hXq : if q = true then X = none else pLoop b g a l 0 (s + (l.length : Int)) [] = X := by
  rw [hX]
  unfold qC
  rw [c1, c2, c3, h, Bool.or_false, Bool.or_false, Bool.or_false, Bool.or_false]
  have e : (q0 || (((outR b a 2 || outR b (a + 4) 2) || outR b (a + 6) 2) || outR b (a + 8) 2)) = q := by
   rw [hq]; cases q0 <;> cases outR b a 2 <;> cases outR b (a + 4) 2 <;> cases outR b (a + 6) 2 <;> cases outR b (a + 8) 2 <;> rfl
  rw [e]
  cases q <;> rfl
 have hq1 : q = false -> s + (l.length : Int) <= 65536 := fun h => hq0 (by
  rw [hq] at h
  simp only [Bool.or_eq_false_iff] at h
  exact h.1.1.1.1)
 refine ⟨Kx b g a l X, fun z => ⟨142, [⟨0, [], .bx 1 0⟩, ⟨1, [], .v (.int .i64 a)⟩, ⟨4, [], .bx 2 0⟩, ⟨5, [], .bx 3 0⟩, ⟨6, [], .sl 4⟩, ⟨7, [], .v (.int .i64 (z.i : Nat))⟩], hRa b g z.s z.q l z.acc, [], dropL nats 6⟩, fun z => l.length - z.i, ⟨[0, 1, 2, 3, 4, 1000], ⟨0, _, q, [], by omega, ⟨by omega, by omega⟩, hq1, by show (0 : Int) <= _; omega, hXq⟩, ?_⟩, fun z => ?_⟩
 · exact aI (aI rfl (aI rfl (aI rfl (aI rfl (aI rfl (aI rfl trivial)))))) (aI rfl (aI (aI rfl rfl) (aI (aI rfl rfl) (aI (aI rfl rfl) (aI rfl (aI rfl trivial))))))
 obtain ⟨i, s1, q, acc, hi, hs1, hq, hl, he⟩ := z
 refine aI (fun hlt => ?_) (fun hge => ?_)
 rotate_left
 · have hge : (decide ((i : Int) < (l.length : Int)) && !q) = false := hge
   exact ⟨⟨acc, s1, q, hs1, hq, by
    cases q with
    | true => rw [if_pos rfl]; exact hX'.trans he
    | false =>
     rw [Bool.not_false, Bool.and_true, decide_eq_false_iff_not] at hge
     have : i = l.length := by omega
     subst this
     rw [List.drop_length] at he
     rw [if_neg (by decide), hX']
     exact he.symm⟩, [0, 1, 5], rfl, rfl, rfl, (aI rfl (aI (aI rfl rfl) (aI rfl trivial))), rfl⟩
 have hlt : (decide ((i : Int) < (l.length : Int)) && !q) = true := hlt
 rw [Bool.and_eq_true, decide_eq_true_iff, Bool.not_eq_true'] at hlt
 obtain ⟨hlt, hqf⟩ := hlt
 subst hqf
 have hs65 := hq rfl
 have hlt : i < l.length := by omega
 have he : pLoop b g a (l.drop i) i s1 acc = X := he
 rw [nthD hlt, pLoop_eq] at he
 have e7 : IntKind.i64.wrap (IntKind.i64.wrap (a + 10) + IntKind.i64.wrap (2 * (i : Int))) = a + 10 + 2 * (i : Int) := by
  rw [i64_id (a + 10) (by omega) (by omega), i64_id (2 * (i : Int)) (by omega) (by omega), i64_id _ (by omega) (by omega)]
 have hw7 := wF_range hB (a + 10 + 2 * (i : Int))
 refine Or.inr (lcall_sub [0, 1] (rword_s b g s1 (a + 10 + 2 * (i : Int)) false hB hb (i64_id _ (by omega) (by omega))) (congrArg (fun z : Int => [SV.bx 1 0, .v (.int .i64 z)]) e7) rfl rfl rfl rfl (aI rfl (aI (aI rfl rfl) trivial)) ?_)
 refine subSt_out (hRa b g s1 (false || outR b (a + 10 + 2 * (i : Int)) 2) l acc) [0, 1] rfl rfl ?_
 obtain ⟨t, ht⟩ : ∃ t, t = a + wF b (a + 10 + 2 * (i : Int)) := ⟨_, rfl⟩
 have et : IntKind.i64.wrap (a + wF b (a + 10 + 2 * (i : Int))) = t := by rw [ht]; exact i64_id _ (by omega) (by omega)
 rw [<- ht] at he
 have ht0 : 0 <= t /\ t <= 2000000 := by omega
 generalize outR b (a + 10 + 2 * (i : Int)) 2 = o1 at *
 refine Or.inr (lcall_sub [0, 1] (rword_s b g s1 t (false || o1) hB hb (i64_id _ (by omega) (by omega))) (congrArg (fun z : Int => [SV.bx 1 0, .v (.int .i64 z)]) et) rfl rfl rfl rfl (aI rfl (aI (aI rfl rfl) trivial)) ?_)
 refine subSt_out (hRa b g s1 ((false || o1) || outR b t 2) l acc) [0, 1] rfl rfl ?_
 have hk := wF_range hB t
 obtain ⟨k, hkk⟩ : ∃ k : Nat, (k : Int) = wF b t := ⟨(wF b t).toNat, by omega⟩
 generalize outR b t 2 = o2 at *
 refine aI (fun hk1 => ?_) (fun hk1 => ?_)
 · have hk1 : decide (wF b t < 1) = true := hk1
   rw [hk1, Bool.or_true, if_pos rfl] at he
   refine ⟨Unit, fun _ => ⟨142, [⟨0, [], .bx 1 0⟩, ⟨1, [], .v (.int .i64 a)⟩, ⟨4, [], .bx 2 0⟩, ⟨5, [], .bx 3 0⟩, ⟨6, [], .sl 4⟩, ⟨7, [], .v (.int .i64 (i : Nat))⟩, ⟨9, [], .v (.int .i64 (wF b t))⟩, ⟨11, [], .v (.int .i64 0)⟩], hRa b g s1 true l acc, [], dropL nats 6⟩, fun _ => 0, ⟨[0, 1, 2, 3, 4, 5], (), ?_⟩, fun _ => ?_⟩
   · exact aI (aI rfl (aI rfl (aI rfl (aI rfl (aI rfl (aI rfl (aI rfl (aI rfl trivial)))))))) (aI rfl (aI (aI rfl rfl) (aI (aI rfl rfl) (aI (aI rfl rfl) (aI rfl (aI rfl trivial))))))
   refine aI (fun h => ?_) (fun _ => ?_)
   · have h : (decide ((0 : Int) < wF b t) && !true) = true := h
     rw [Bool.not_true, Bool.and_false] at h; cases h
   exact ⟨[0, 1, 2, 3, 4, 5], ⟨i + 1, s1, true, acc, hlt, hs1, fun h => (by cases h), hl, by rw [if_pos rfl]; exact he.symm⟩, aI (aI rfl (aI rfl (aI rfl (aI rfl (aI rfl (aI (svI (i64_succ i (by omega))) trivial)))))) (aI rfl (aI (aI rfl rfl) (aI (aI rfl rfl) (aI (aI rfl rfl) (aI rfl (aI rfl trivial)))))), by show l.length - (i + 1) < l.length - i; omega⟩
 have hk1 : decide (wF b t < 1) = false := hk1
 rw [hk1, Bool.or_false] at he
 have hkn : (wF b t).toNat = k := by omega
 rw [hkn] at he
 refine ⟨Ky b g a t (nth l i) k i l X, fun z => ⟨142, [⟨0, [], .bx 1 0⟩, ⟨1, [], .v (.int .i64 a)⟩, ⟨4, [], .bx 2 0⟩, ⟨5, [], .bx 3 0⟩, ⟨6, [], .sl 4⟩, ⟨7, [], .v (.int .i64 (i : Nat))⟩, ⟨8, [], .v (.int .i64 t)⟩, ⟨9, [], .v (.int .i64 (k : Nat))⟩, ⟨10, [], .v (.int .i64 z.last)⟩, ⟨11, [], .v (.int .i64 (z.j : Nat))⟩], hRa b g z.s z.q l z.acc, [], dropL nats 6⟩, fun z => k - z.j, ⟨[0, 1, 2, 3, 4, 5], ⟨0, s1, (false || o1) || o2, -1, acc, by omega, hs1, fun _ => hs65, hl, by
  rw [Nat.sub_zero]
  cases o1 <;> cases o2 <;> first | exact he | exact he.symm⟩, ?_⟩, fun z => ?_⟩
 · exact aI (aI rfl (aI rfl (aI rfl (aI rfl (aI rfl (aI rfl (aI (svI et) (aI (svI hkk.symm) (aI rfl (aI rfl trivial)))))))))) (aI rfl (aI (aI rfl rfl) (aI (aI rfl rfl) (aI (aI rfl rfl) (aI rfl (aI rfl trivial))))))
 obtain ⟨j, s2, q2, last, acc2, hj, hs2, hq2, hl2, he⟩ := z
 refine aI (fun hjl => ?_) (fun hjg => ?_)
 rotate_left
 · have hjg : (decide ((j : Int) < (k : Int)) && !q2) = false := hjg
   exact ⟨[0, 1, 2, 3, 4, 5], ⟨i + 1, s2, q2, acc2, hlt, hs2, hq2, hl2, by
    cases q2 with
    | true => exact he
    | false =>
     rw [Bool.not_false, Bool.and_true, decide_eq_false_iff_not] at hjg
     have : k - j = 0 := by omega
     rw [this] at he
     exact he⟩, aI (aI rfl (aI rfl (aI rfl (aI rfl (aI rfl (aI (svI (i64_succ i (by omega))) trivial)))))) (aI rfl (aI (aI rfl rfl) (aI (aI rfl rfl) (aI (aI rfl rfl) (aI rfl (aI rfl trivial)))))), by show l.length - (i + 1) < l.length - i; omega⟩
 have hjl : (decide ((j : Int) < (k : Int)) && !q2) = true := hjl
 rw [Bool.and_eq_true, decide_eq_true_iff, Bool.not_eq_true'] at hjl
 obtain ⟨hjl, hqf⟩ := hjl
 subst hqf
 have hs65 := hq2 rfl
 have hjl : j < k := by omega
 rw [if_neg (by decide), show k - j = (k - (j + 1)) + 1 by omega, kLoop_eq] at he
 have e2 : IntKind.i64.wrap (IntKind.i64.wrap (t + 2) + IntKind.i64.wrap (4 * (j : Int))) = t + 2 + 4 * (j : Int) := by
  rw [i64_id (t + 2) (by omega) (by omega), i64_id (4 * (j : Int)) (by omega) (by omega), i64_id _ (by omega) (by omega)]
 have e4 : IntKind.i64.wrap (IntKind.i64.wrap (t + 4) + IntKind.i64.wrap (4 * (j : Int))) = t + 4 + 4 * (j : Int) := by
  rw [i64_id (t + 4) (by omega) (by omega), i64_id (4 * (j : Int)) (by omega) (by omega), i64_id _ (by omega) (by omega)]
 refine Or.inr (lcall_sub [0, 1] (rword_s b g s2 (t + 2 + 4 * (j : Int)) false hB hb (i64_id _ (by omega) (by omega))) (congrArg (fun z : Int => [SV.bx 1 0, .v (.int .i64 z)]) e2) rfl rfl rfl rfl (aI rfl (aI (aI rfl rfl) trivial)) ?_)
 refine subSt_out (hRa b g s2 (false || outR b (t + 2 + 4 * (j : Int)) 2) l acc2) [0, 1] rfl rfl ?_
 refine Or.inr (lcall_sub [0, 1] (rword_s b g s2 (t + 4 + 4 * (j : Int)) (false || outR b (t + 2 + 4 * (j : Int)) 2) hB hb (i64_id _ (by omega) (by omega))) (congrArg (fun z : Int => [SV.bx 1 0, .v (.int .i64 z)]) e4) rfl rfl rfl rfl (aI rfl (aI (aI rfl rfl) trivial)) ?_)
 refine subSt_out (hRa b g s2 ((false || outR b (t + 2 + 4 * (j : Int)) 2) || outR b (t + 4 + 4 * (j : Int)) 2) l acc2) [0, 1] rfl rfl ?_
 unfold kQ at he
 generalize outR b (t + 2 + 4 * (j : Int)) 2 = oA at *
 generalize outR b (t + 4 + 4 * (j : Int)) 2 = oB at *
 generalize wF b (t + 2 + 4 * (j : Int)) = x at *
 generalize wF b (t + 4 + 4 * (j : Int)) = y at *
 have bi : (0 : Int) <= (i : Int) /\ (i : Int) < (l.length : Int) := ⟨by omega, by omega⟩
 refine aI (fun hc => ?_) (fun hc => ?_)
 · have hc : (decide (x >= g) || decide (x <= last)) = true := hc
   rw [hc] at he
   refine Or.inr (lcall_sub [0, 1] (rcount_s b g s2 1 (true) ⟨by omega, by omega⟩ ⟨by omega, by omega⟩) rfl rfl rfl rfl rfl (aI rfl (aI (aI rfl rfl) trivial)) ?_)
   refine subSt_out (hRa b g (s2 + 1) (true || decide (s2 + 1 > 65536)) l acc2) [0, 1] rfl rfl ?_
   refine Or.inr (Or.inr (Or.inl ⟨[0, 1, 2, 3, 4, 5, 6, 7, 8, 9, 10, 11, 12], [12], [13, 14, 15], by kernel_rfl, ?_⟩))
   refine aI bi ?_
   refine ⟨[⟨nth l i, IntKind.u16.wrap x, i16 y⟩], ⟨rfl, rfl, by simp⟩, by show (acc2.length + 1) * 6 <= _; omega, ?_⟩
   exact ⟨[0, 1, 2, 3, 4, 7], ⟨j + 1, s2 + 1, true || decide (s2 + 1 > 65536), x, acc2 ++ [⟨nth l i, IntKind.u16.wrap x, i16 y⟩], hjl, ⟨by omega, by omega⟩, fun h => (by
    rw [Bool.or_eq_false_iff, decide_eq_false_iff_not] at h
    omega), by rw [List.length_append]; show ((acc2.length + 1 : Nat) : Int) <= _; omega, by
    cases oA <;> cases oB <;> cases hd : decide (s2 + 1 > 65536) <;> rw [hd] at he <;> first | exact he | exact he.symm⟩, aI (aI rfl (aI rfl (aI rfl (aI rfl (aI rfl (aI rfl (aI rfl (aI rfl (aI rfl (aI (svI (i64_succ j (by omega))) trivial)))))))))) (aI rfl (aI (aI rfl rfl) (aI (aI rfl rfl) (aI (aI rfl rfl) (aI rfl (aI (owKe rfl) trivial)))))), by show k - (j + 1) < k - j; omega⟩
 · have hc : (decide (x >= g) || decide (x <= last)) = false := hc
   rw [hc] at he
   refine Or.inr (lcall_sub [0, 1] (rcount_s b g s2 1 (((false || oA) || oB)) ⟨by omega, by omega⟩ ⟨by omega, by omega⟩) rfl rfl rfl rfl rfl (aI rfl (aI (aI rfl rfl) trivial)) ?_)
   refine subSt_out (hRa b g (s2 + 1) (((false || oA) || oB) || decide (s2 + 1 > 65536)) l acc2) [0, 1] rfl rfl ?_
   refine Or.inr (Or.inr (Or.inl ⟨[0, 1, 2, 3, 4, 5, 6, 7, 8, 9, 10, 11, 12], [12], [13, 14, 15], by kernel_rfl, ?_⟩))
   refine aI bi ?_
   refine ⟨[⟨nth l i, IntKind.u16.wrap x, i16 y⟩], ⟨rfl, rfl, by simp⟩, by show (acc2.length + 1) * 6 <= _; omega, ?_⟩
   exact ⟨[0, 1, 2, 3, 4, 7], ⟨j + 1, s2 + 1, ((false || oA) || oB) || decide (s2 + 1 > 65536), x, acc2 ++ [⟨nth l i, IntKind.u16.wrap x, i16 y⟩], hjl, ⟨by omega, by omega⟩, fun h => (by
    rw [Bool.or_eq_false_iff, decide_eq_false_iff_not] at h
    omega), by rw [List.length_append]; show ((acc2.length + 1 : Nat) : Int) <= _; omega, by
    cases oA <;> cases oB <;> cases hd : decide (s2 + 1 > 65536) <;> rw [hd] at he <;> first | exact he | exact he.symm⟩, aI (aI rfl (aI rfl (aI rfl (aI rfl (aI rfl (aI rfl (aI rfl (aI rfl (aI rfl (aI (svI (i64_succ j (by omega))) trivial)))))))))) (aI rfl (aI (aI rfl rfl) (aI (aI rfl rfl) (aI (aI rfl rfl) (aI rfl (aI (owKe rfl) trivial)))))), by show k - (j + 1) < k - j; omega⟩
end Go.Proofs.YtjflgkadagkllaaGreat
