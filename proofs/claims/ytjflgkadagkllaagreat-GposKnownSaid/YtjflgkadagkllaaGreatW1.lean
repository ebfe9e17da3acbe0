/- calamuskit.subWeight, Weight: how it is counted. -/
import Derived.Test.YtjflgkadagkllaaGreatQ4
set_option maxRecDepth 100000
set_option linter.unusedVariables false
namespace Go.Proofs.YtjflgkadagkllaaGreat
open Go Go.Eng Go.RowKit
theorem retI {a b : Int} (h : a = b) : Ending.returned (.int .i64 a) = Ending.returned (.int .i64 b) := by rw [h]
def loopC (top : Int) (g : Nat -> Int -> Int) (len : Nat) : Nat -> Nat -> Int -> Int
 | 0, _, n => n
 | k + 1, i, n => if n <= top then loopC top g len k (i + 1) (g i n) else n
def run (top : Int) (g : Nat -> Int -> Int) (len : Nat) (n : Int) : Int := loopC top g len len 0 n
theorem loopC_step (top : Int) (g : Nat -> Int -> Int) (len i : Nat) (n : Int) (h : i < len) : loopC top g len (len - i) i n = if n <= top then loopC top g len (len - (i + 1)) (i + 1) (g i n) else n := by
 rw [show len - i = (len - (i + 1)) + 1 from by omega]; rfl
theorem loopC_end (top : Int) (g : Nat -> Int -> Int) (len i : Nat) (n : Int) (h : i < len -> n <= top -> False) : loopC top g len (len - i) i n = n := by
 by_cases hi : i < len
 · rw [loopC_step top g len i n hi, if_neg (fun h2 => h hi h2)]
 · rw [show len - i = 0 from by omega]; rfl
def addG (len : Int) (n : Int) : Int := IntKind.i64.wrap (IntKind.i64.wrap (n + 1) + len)
def gMany (s : Sub) (j : Nat) (n : Int) : Int := addG ((nth s.manys j).to.length : Nat) n
def gLig (s : Sub) (j : Nat) (n : Int) : Int := addG ((nth s.ligs j).parts.length : Nat) n
def gRow (l : List (List Int)) (j : Nat) (n : Int) : Int := addG ((nth l j).length : Nat) n
def sw0 (s : Sub) : Int := IntKind.i64.wrap ((s.pairs.length : Int) + (s.recs.length : Int))
def sw1 (s : Sub) (top : Int) : Int := run top (gMany s) s.manys.length (sw0 s)
def sw2 (s : Sub) (top : Int) : Int := run top (gLig s) s.ligs.length (sw1 s top)
def rows3 (s : Sub) : List (List (List Int)) := [s.back, s.ins, s.ahead]
def sw3 (s : Sub) (top : Int) : Nat -> Int
 | 0 => sw2 s top
 | i + 1 => run top (gRow (nth (rows3 s) i)) (nth (rows3 s) i).length (sw3 s top i)
def subW (s : Sub) (top : Int) : Int := sw3 s top 3
structure SubB (s : Sub) : Prop where
 m : s.manys.length <= 9223372036854775807
 l : s.ligs.length <= 9223372036854775807
 b : s.back.length <= 9223372036854775807
 i : s.ins.length <= 9223372036854775807
 a : s.ahead.length <= 9223372036854775807
theorem subWeight_c (s : Sub) (top : Int) (hs : SubB s) (v0 v1 v2 v3 v4 v5 v6 : Value) (w : World) (h0 : Rd w v0 2 paE s.pairs) (h1 : Rd w v1 2 myE s.manys) (h2 : Rd w v2 2 liE s.ligs) (h3 : Rd w v3 1 wsE s.back) (h4 : Rd w v4 1 wsE s.ins) (h5 : Rd w v5 1 wsE s.ahead) (h6 : Rd w v6 2 reE s.recs) :
 Calls Tryz.prog 29 #[.agg #[v0, v1, v2, v3, v4, v5, v6], .int .i64 top] w fun e w' => e = .returned (.int .i64 (subW s top)) /\ Below w.heap.size w w' := by
 refine calls_exec (cf := cf) cfok (fn := Tryz.f29) Tryz.func29 rfl [.agg [.sl 0, .sl 1, .sl 2, .sl 3, .sl 4, .sl 5, .sl 6], .v (.int .i64 top)] [.rd Pair2 inferInstance 2 paE s.pairs, .rd Many inferInstance 2 myE s.manys, .rd Lig inferInstance 2 liE s.ligs, .rd (List Int) inferInstance 1 wsE s.back, .rd (List Int) inferInstance 1 wsE s.ins, .rd (List Int) inferInstance 1 wsE s.ahead, .rd Pair2 inferInstance 2 reE s.recs]
  (ρ := fun i => match i with | 0 => v0 | 1 => v1 | 2 => v2 | 3 => v3 | 4 => v4 | 5 => v5 | _ => v6) (· < w.heap.size) rfl rfl rfl (by simp [svOkL, svOk]) (memRd (fun _ h => h) ⟨h0, h1, h2, h3, h4, h5, h6, trivial⟩) ?_
 have hm := hs.m
 have hl := hs.l
 refine ⟨{ j : Nat × Int // j.1 <= s.manys.length /\ run top (gMany s) s.manys.length (sw0 s) = loopC top (gMany s) s.manys.length (s.manys.length - j.1) j.1 j.2 }, fun j => ⟨95, [⟨1, [], .v (.int .i64 top)⟩, ⟨2, [], .bx 7 0⟩, ⟨5, [], .v (.int .i64 j.1.2)⟩, ⟨6, [], .v (.int .i64 j.1.1)⟩], [.rd Pair2 inferInstance 2 paE s.pairs, .rd Many inferInstance 2 myE s.manys, .rd Lig inferInstance 2 liE s.ligs, .rd (List Int) inferInstance 1 wsE s.back, .rd (List Int) inferInstance 1 wsE s.ins, .rd (List Int) inferInstance 1 wsE s.ahead, .rd Pair2 inferInstance 2 reE s.recs, .bx 66 [.sl 0, .sl 1, .sl 2, .sl 3, .sl 4, .sl 5, .sl 6]], [], dropL nats 8⟩, fun j => s.manys.length - j.1.1,
  ⟨[0, 1, 2, 3, 4, 5, 6, 7], ⟨(0, sw0 s), by show 0 <= _; omega, rfl⟩, ?_⟩, fun j => ?_⟩
 · exact aI (aI (rfl) (aI (rfl) (aI (rfl) (aI (rfl) trivial)))) (aI (rfl) (aI (rfl) (aI (rfl) (aI (rfl) (aI (rfl) (aI (rfl) (aI (rfl) (aI (⟨rfl, rfl⟩) trivial))))))))
 obtain ⟨⟨j, n⟩, hj, hall⟩ := j
 have hj : j <= s.manys.length := hj
 have hall : run top (gMany s) s.manys.length (sw0 s) = loopC top (gMany s) s.manys.length (s.manys.length - j) j n := hall
 refine aI (fun hc => ?_) (fun hc => ?_)
 · have hc : (decide ((j : Int) < (s.manys.length : Int)) && decide (n <= top)) = true := hc
   rw [Bool.and_eq_true, decide_eq_true_iff, decide_eq_true_iff] at hc
   have hlt : j < s.manys.length := by omega
   rw [loopC_step top (gMany s) _ _ _ hlt, if_pos hc.2] at hall
   refine aI (show (0 : Int) <= (j : Int) /\ (j : Int) < (s.manys.length : Int) from ⟨by omega, by omega⟩) ?_
   exact ⟨[0, 1, 2, 3, 4, 5, 6, 7], ⟨(j + 1, (gMany s) j n), hlt, hall⟩, aI (aI (rfl) (aI (rfl) (aI (rfl) (aI (svI (i64_succ j (by omega))) trivial)))) (aI (rfl) (aI (rfl) (aI (rfl) (aI (rfl) (aI (rfl) (aI (rfl) (aI (rfl) (aI (⟨rfl, rfl⟩) trivial)))))))), by show _ - (j + 1) < _ - j; omega⟩
 have hc : (decide ((j : Int) < (s.manys.length : Int)) && decide (n <= top)) = false := hc
 rw [loopC_end top (gMany s) _ _ _ (fun h1 h2 => by rw [decide_eq_true (by omega : (j : Int) < (s.manys.length : Int)), decide_eq_true h2] at hc; cases hc)] at hall
 have e1 : n = sw1 s top := hall.symm
 subst e1
 clear hall hc
 refine ⟨{ j : Nat × Int // j.1 <= s.ligs.length /\ run top (gLig s) s.ligs.length (sw1 s top) = loopC top (gLig s) s.ligs.length (s.ligs.length - j.1) j.1 j.2 }, fun j => ⟨95, [⟨1, [], .v (.int .i64 top)⟩, ⟨2, [], .bx 7 0⟩, ⟨5, [], .v (.int .i64 j.1.2)⟩, ⟨7, [], .v (.int .i64 j.1.1)⟩], [.rd Pair2 inferInstance 2 paE s.pairs, .rd Many inferInstance 2 myE s.manys, .rd Lig inferInstance 2 liE s.ligs, .rd (List Int) inferInstance 1 wsE s.back, .rd (List Int) inferInstance 1 wsE s.ins, .rd (List Int) inferInstance 1 wsE s.ahead, .rd Pair2 inferInstance 2 reE s.recs, .bx 66 [.sl 0, .sl 1, .sl 2, .sl 3, .sl 4, .sl 5, .sl 6]], [], dropL nats 8⟩, fun j => s.ligs.length - j.1.1,
  ⟨[0, 1, 2, 3, 4, 5, 6, 7], ⟨(0, sw1 s top), by show 0 <= _; omega, rfl⟩, ?_⟩, fun j => ?_⟩
 · exact aI (aI (rfl) (aI (rfl) (aI (rfl) (aI (rfl) trivial)))) (aI (rfl) (aI (rfl) (aI (rfl) (aI (rfl) (aI (rfl) (aI (rfl) (aI (rfl) (aI (⟨rfl, rfl⟩) trivial))))))))
 obtain ⟨⟨j, n⟩, hj, hall⟩ := j
 have hj : j <= s.ligs.length := hj
 have hall : run top (gLig s) s.ligs.length (sw1 s top) = loopC top (gLig s) s.ligs.length (s.ligs.length - j) j n := hall
 refine aI (fun hc => ?_) (fun hc => ?_)
 · have hc : (decide ((j : Int) < (s.ligs.length : Int)) && decide (n <= top)) = true := hc
   rw [Bool.and_eq_true, decide_eq_true_iff, decide_eq_true_iff] at hc
   have hlt : j < s.ligs.length := by omega
   rw [loopC_step top (gLig s) _ _ _ hlt, if_pos hc.2] at hall
   refine aI (show (0 : Int) <= (j : Int) /\ (j : Int) < (s.ligs.length : Int) from ⟨by omega, by omega⟩) ?_
   exact ⟨[0, 1, 2, 3, 4, 5, 6, 7], ⟨(j + 1, (gLig s) j n), hlt, hall⟩, aI (aI (rfl) (aI (rfl) (aI (rfl) (aI (svI (i64_succ j (by omega))) trivial)))) (aI (rfl) (aI (rfl) (aI (rfl) (aI (rfl) (aI (rfl) (aI (rfl) (aI (rfl) (aI (⟨rfl, rfl⟩) trivial)))))))), by show _ - (j + 1) < _ - j; omega⟩
 have hc : (decide ((j : Int) < (s.ligs.length : Int)) && decide (n <= top)) = false := hc
 rw [loopC_end top (gLig s) _ _ _ (fun h1 h2 => by rw [decide_eq_true (by omega : (j : Int) < (s.ligs.length : Int)), decide_eq_true h2] at hc; cases hc)] at hall
 have e2 : n = sw2 s top := hall.symm
 subst e2
 clear hall hc
 refine ⟨{ i : Nat // i <= 3 }, fun i => ⟨95, [⟨1, [], .v (.int .i64 top)⟩, ⟨2, [], .bx 7 0⟩, ⟨5, [], .v (.int .i64 (sw3 s top i.1))⟩, ⟨68, [], .sl 8⟩, ⟨69, [], .v (.int .i64 3)⟩, ⟨70, [], .v (.int .i64 i.1)⟩], [.rd Pair2 inferInstance 2 paE s.pairs, .rd Many inferInstance 2 myE s.manys, .rd Lig inferInstance 2 liE s.ligs, .rd (List Int) inferInstance 1 wsE s.back, .rd (List Int) inferInstance 1 wsE s.ins, .rd (List Int) inferInstance 1 wsE s.ahead, .rd Pair2 inferInstance 2 reE s.recs, .bx 66 [.sl 0, .sl 1, .sl 2, .sl 3, .sl 4, .sl 5, .sl 6]] ++ [.raw 63 3 1 [.sl 3, .sl 4, .sl 5]], [], dropL nats 9⟩, fun i => 3 - i.1,
  ⟨[0, 1, 2, 3, 4, 5, 6, 7, 8], ⟨0, by omega⟩, ?_⟩, fun i => ?_⟩
 · exact aI (aI (rfl) (aI (rfl) (aI (rfl) (aI (rfl) (aI (rfl) (aI (rfl) trivial)))))) (aI (rfl) (aI (rfl) (aI (rfl) (aI (rfl) (aI (rfl) (aI (rfl) (aI (rfl) (aI (⟨rfl, rfl⟩) (aI (⟨rfl, rfl, rfl, rfl⟩) trivial)))))))))
 obtain ⟨i, hi⟩ := i
 refine aI (fun hlt => ?_) (fun hge => ?_)
 · have hlt : i < 3 := by have : (i : Int) < 3 := of_decide_eq_true hlt; omega
   refine aI (show (0 : Int) <= (i : Int) /\ (i : Int) < 3 from ⟨by omega, by omega⟩) ?_
   have hbb := hs.b
   have hbi := hs.i
   have hba := hs.a
   obtain rfl | rfl | rfl : i = 0 \/ i = 1 \/ i = 2 := by omega
   · refine ⟨{ j : Nat × Int // j.1 <= s.back.length /\ run top (gRow s.back) s.back.length (sw3 s top 0) = loopC top (gRow s.back) s.back.length (s.back.length - j.1) j.1 j.2 }, fun j => ⟨95, [⟨1, [], .v (.int .i64 top)⟩, ⟨2, [], .bx 7 0⟩, ⟨5, [], .v (.int .i64 j.1.2)⟩, ⟨68, [], .sl 8⟩, ⟨69, [], .v (.int .i64 3)⟩, ⟨70, [], .v (.int .i64 ((0 : Nat) : Int))⟩, ⟨9, [], .sl 3⟩, ⟨10, [], .v (.int .i64 j.1.1)⟩], [.rd Pair2 inferInstance 2 paE s.pairs, .rd Many inferInstance 2 myE s.manys, .rd Lig inferInstance 2 liE s.ligs, .rd (List Int) inferInstance 1 wsE s.back, .rd (List Int) inferInstance 1 wsE s.ins, .rd (List Int) inferInstance 1 wsE s.ahead, .rd Pair2 inferInstance 2 reE s.recs, .bx 66 [.sl 0, .sl 1, .sl 2, .sl 3, .sl 4, .sl 5, .sl 6]] ++ [.raw 63 3 1 [.sl 3, .sl 4, .sl 5]], [], dropL nats 9⟩, fun j => s.back.length - j.1.1,
      ⟨[0, 1, 2, 3, 4, 5, 6, 7, 8], ⟨(0, sw3 s top 0), by show 0 <= _; omega, rfl⟩, ?_⟩, fun j => ?_⟩
     · exact aI (aI (rfl) (aI (rfl) (aI (rfl) (aI (rfl) (aI (rfl) (aI (rfl) (aI (rfl) (aI (rfl) trivial)))))))) (aI (rfl) (aI (rfl) (aI (rfl) (aI (rfl) (aI (rfl) (aI (rfl) (aI (rfl) (aI (⟨rfl, rfl⟩) (aI (⟨rfl, rfl, rfl, rfl⟩) trivial)))))))))
     obtain ⟨⟨j, n⟩, hj, hall⟩ := j
     have hj : j <= s.back.length := hj
     have hall : run top (gRow s.back) s.back.length (sw3 s top 0) = loopC top (gRow s.back) s.back.length (s.back.length - j) j n := hall
     refine aI (fun hc => ?_) (fun hc => ?_)
     · have hc : (decide ((j : Int) < (s.back.length : Int)) && decide (n <= top)) = true := hc
       rw [Bool.and_eq_true, decide_eq_true_iff, decide_eq_true_iff] at hc
       have hlt' : j < s.back.length := by omega
       rw [loopC_step top _ _ _ _ hlt', if_pos hc.2] at hall
       refine aI (show (0 : Int) <= (j : Int) /\ (j : Int) < (s.back.length : Int) from ⟨by omega, by omega⟩) ?_
       exact ⟨[0, 1, 2, 3, 4, 5, 6, 7, 8], ⟨(j + 1, gRow s.back j n), hlt', hall⟩, aI (aI (rfl) (aI (rfl) (aI (rfl) (aI (rfl) (aI (rfl) (aI (rfl) (aI (rfl) (aI (svI (i64_succ j (by omega))) trivial)))))))) (aI (rfl) (aI (rfl) (aI (rfl) (aI (rfl) (aI (rfl) (aI (rfl) (aI (rfl) (aI (⟨rfl, rfl⟩) (aI (⟨rfl, rfl, rfl, rfl⟩) trivial))))))))), by show _ - (j + 1) < _ - j; omega⟩
     have hc : (decide ((j : Int) < (s.back.length : Int)) && decide (n <= top)) = false := hc
     rw [loopC_end top _ _ _ _ (fun h1 h2 => by rw [decide_eq_true (by omega : (j : Int) < (s.back.length : Int)), decide_eq_true h2] at hc; cases hc)] at hall
     exact ⟨[0, 1, 2, 3, 4, 5, 6, 7, 8], ⟨1, by omega⟩, aI (aI (rfl) (aI (rfl) (aI (svI hall.symm) (aI (rfl) (aI (rfl) (aI (rfl) trivial)))))) (aI (rfl) (aI (rfl) (aI (rfl) (aI (rfl) (aI (rfl) (aI (rfl) (aI (rfl) (aI (⟨rfl, rfl⟩) (aI (⟨rfl, rfl, rfl, rfl⟩) trivial))))))))), by show 3 - 1 < 3 - 0; omega⟩
   · refine ⟨{ j : Nat × Int // j.1 <= s.ins.length /\ run top (gRow s.ins) s.ins.length (sw3 s top 1) = loopC top (gRow s.ins) s.ins.length (s.ins.length - j.1) j.1 j.2 }, fun j => ⟨95, [⟨1, [], .v (.int .i64 top)⟩, ⟨2, [], .bx 7 0⟩, ⟨5, [], .v (.int .i64 j.1.2)⟩, ⟨68, [], .sl 8⟩, ⟨69, [], .v (.int .i64 3)⟩, ⟨70, [], .v (.int .i64 ((1 : Nat) : Int))⟩, ⟨9, [], .sl 4⟩, ⟨10, [], .v (.int .i64 j.1.1)⟩], [.rd Pair2 inferInstance 2 paE s.pairs, .rd Many inferInstance 2 myE s.manys, .rd Lig inferInstance 2 liE s.ligs, .rd (List Int) inferInstance 1 wsE s.back, .rd (List Int) inferInstance 1 wsE s.ins, .rd (List Int) inferInstance 1 wsE s.ahead, .rd Pair2 inferInstance 2 reE s.recs, .bx 66 [.sl 0, .sl 1, .sl 2, .sl 3, .sl 4, .sl 5, .sl 6]] ++ [.raw 63 3 1 [.sl 3, .sl 4, .sl 5]], [], dropL nats 9⟩, fun j => s.ins.length - j.1.1,
      ⟨[0, 1, 2, 3, 4, 5, 6, 7, 8], ⟨(0, sw3 s top 1), by show 0 <= _; omega, rfl⟩, ?_⟩, fun j => ?_⟩
     · exact aI (aI (rfl) (aI (rfl) (aI (rfl) (aI (rfl) (aI (rfl) (aI (rfl) (aI (rfl) (aI (rfl) trivial)))))))) (aI (rfl) (aI (rfl) (aI (rfl) (aI (rfl) (aI (rfl) (aI (rfl) (aI (rfl) (aI (⟨rfl, rfl⟩) (aI (⟨rfl, rfl, rfl, rfl⟩) trivial)))))))))
     obtain ⟨⟨j, n⟩, hj, hall⟩ := j
     have hj : j <= s.ins.length := hj
     have hall : run top (gRow s.ins) s.ins.length (sw3 s top 1) = loopC top (gRow s.ins) s.ins.length (s.ins.length - j) j n := hall
     refine aI (fun hc => ?_) (fun hc => ?_)
     · have hc : (decide ((j : Int) < (s.ins.length : Int)) && decide (n <= top)) = true := hc
       rw [Bool.and_eq_true, decide_eq_true_iff, decide_eq_true_iff] at hc
       have hlt' : j < s.ins.length := by omega
       rw [loopC_step top _ _ _ _ hlt', if_pos hc.2] at hall
       refine aI (show (0 : Int) <= (j : Int) /\ (j : Int) < (s.ins.length : Int) from ⟨by omega, by omega⟩) ?_
       exact ⟨[0, 1, 2, 3, 4, 5, 6, 7, 8], ⟨(j + 1, gRow s.ins j n), hlt', hall⟩, aI (aI (rfl) (aI (rfl) (aI (rfl) (aI (rfl) (aI (rfl) (aI (rfl) (aI (rfl) (aI (svI (i64_succ j (by omega))) trivial)))))))) (aI (rfl) (aI (rfl) (aI (rfl) (aI (rfl) (aI (rfl) (aI (rfl) (aI (rfl) (aI (⟨rfl, rfl⟩) (aI (⟨rfl, rfl, rfl, rfl⟩) trivial))))))))), by show _ - (j + 1) < _ - j; omega⟩
     have hc : (decide ((j : Int) < (s.ins.length : Int)) && decide (n <= top)) = false := hc
     rw [loopC_end top _ _ _ _ (fun h1 h2 => by rw [decide_eq_true (by omega : (j : Int) < (s.ins.length : Int)), decide_eq_true h2] at hc; cases hc)] at hall
     exact ⟨[0, 1, 2, 3, 4, 5, 6, 7, 8], ⟨2, by omega⟩, aI (aI (rfl) (aI (rfl) (aI (svI hall.symm) (aI (rfl) (aI (rfl) (aI (rfl) trivial)))))) (aI (rfl) (aI (rfl) (aI (rfl) (aI (rfl) (aI (rfl) (aI (rfl) (aI (rfl) (aI (⟨rfl, rfl⟩) (aI (⟨rfl, rfl, rfl, rfl⟩) trivial))))))))), by show 3 - 2 < 3 - 1; omega⟩
   · refine ⟨{ j : Nat × Int // j.1 <= s.ahead.length /\ run top (gRow s.ahead) s.ahead.length (sw3 s top 2) = loopC top (gRow s.ahead) s.ahead.length (s.ahead.length - j.1) j.1 j.2 }, fun j => ⟨95, [⟨1, [], .v (.int .i64 top)⟩, ⟨2, [], .bx 7 0⟩, ⟨5, [], .v (.int .i64 j.1.2)⟩, ⟨68, [], .sl 8⟩, ⟨69, [], .v (.int .i64 3)⟩, ⟨70, [], .v (.int .i64 ((2 : Nat) : Int))⟩, ⟨9, [], .sl 5⟩, ⟨10, [], .v (.int .i64 j.1.1)⟩], [.rd Pair2 inferInstance 2 paE s.pairs, .rd Many inferInstance 2 myE s.manys, .rd Lig inferInstance 2 liE s.ligs, .rd (List Int) inferInstance 1 wsE s.back, .rd (List Int) inferInstance 1 wsE s.ins, .rd (List Int) inferInstance 1 wsE s.ahead, .rd Pair2 inferInstance 2 reE s.recs, .bx 66 [.sl 0, .sl 1, .sl 2, .sl 3, .sl 4, .sl 5, .sl 6]] ++ [.raw 63 3 1 [.sl 3, .sl 4, .sl 5]], [], dropL nats 9⟩, fun j => s.ahead.length - j.1.1,
      ⟨[0, 1, 2, 3, 4, 5, 6, 7, 8], ⟨(0, sw3 s top 2), by show 0 <= _; omega, rfl⟩, ?_⟩, fun j => ?_⟩
     · exact aI (aI (rfl) (aI (rfl) (aI (rfl) (aI (rfl) (aI (rfl) (aI (rfl) (aI (rfl) (aI (rfl) trivial)))))))) (aI (rfl) (aI (rfl) (aI (rfl) (aI (rfl) (aI (rfl) (aI (rfl) (aI (rfl) (aI (⟨rfl, rfl⟩) (aI (⟨rfl, rfl, rfl, rfl⟩) trivial)))))))))
     obtain ⟨⟨j, n⟩, hj, hall⟩ := j
     have hj : j <= s.ahead.length := hj
     have hall : run top (gRow s.ahead) s.ahead.length (sw3 s top 2) = loopC top (gRow s.ahead) s.ahead.length (s.ahead.length - j) j n := hall
     refine aI (fun hc => ?_) (fun hc => ?_)
     · have hc : (decide ((j : Int) < (s.ahead.length : Int)) && decide (n <= top)) = true := hc
       rw [Bool.and_eq_true, decide_eq_true_iff, decide_eq_true_iff] at hc
       have hlt' : j < s.ahead.length := by omega
       rw [loopC_step top _ _ _ _ hlt', if_pos hc.2] at hall
       refine aI (show (0 : Int) <= (j : Int) /\ (j : Int) < (s.ahead.length : Int) from ⟨by omega, by omega⟩) ?_
       exact ⟨[0, 1, 2, 3, 4, 5, 6, 7, 8], ⟨(j + 1, gRow s.ahead j n), hlt', hall⟩, aI (aI (rfl) (aI (rfl) (aI (rfl) (aI (rfl) (aI (rfl) (aI (rfl) (aI (rfl) (aI (svI (i64_succ j (by omega))) trivial)))))))) (aI (rfl) (aI (rfl) (aI (rfl) (aI (rfl) (aI (rfl) (aI (rfl) (aI (rfl) (aI (⟨rfl, rfl⟩) (aI (⟨rfl, rfl, rfl, rfl⟩) trivial))))))))), by show _ - (j + 1) < _ - j; omega⟩
     have hc : (decide ((j : Int) < (s.ahead.length : Int)) && decide (n <= top)) = false := hc
     rw [loopC_end top _ _ _ _ (fun h1 h2 => by rw [decide_eq_true (by omega : (j : Int) < (s.ahead.length : Int)), decide_eq_true h2] at hc; cases hc)] at hall
     exact ⟨[0, 1, 2, 3, 4, 5, 6, 7, 8], ⟨3, by omega⟩, aI (aI (rfl) (aI (rfl) (aI (svI hall.symm) (aI (rfl) (aI (rfl) (aI (rfl) trivial)))))) (aI (rfl) (aI (rfl) (aI (rfl) (aI (rfl) (aI (rfl) (aI (rfl) (aI (rfl) (aI (⟨rfl, rfl⟩) (aI (⟨rfl, rfl, rfl, rfl⟩) trivial))))))))), by show 3 - 3 < 3 - 2; omega⟩
 have hge : i = 3 := by have : ¬ (i : Int) < 3 := of_decide_eq_false hge; omega
 subst hge
 exact fun ρ S w' hi => ⟨rfl, hi.below⟩
def gSub (x : LkU) (top : Int) (k : Nat) (n : Int) : Int := IntKind.i64.wrap (n + subW (nth x.subs k) top)
def gBase (p : PosU) (j : Nat) (n : Int) : Int := addG ((nth p.bases j).an.length : Nat) n
def gPos (x : LkU) (top : Int) (q : Nat) (n : Int) : Int := run top (gBase (nth x.poss q)) (nth x.poss q).bases.length (IntKind.i64.wrap (IntKind.i64.wrap (n + ((nth x.poss q).kerns.length : Int)) + ((nth x.poss q).marks.length : Int)))
def lk0 (x : LkU) (n : Int) : Int := IntKind.i64.wrap (IntKind.i64.wrap (IntKind.i64.wrap (n + 1) + (x.subs.length : Int)) + (x.poss.length : Int))
def gLk (ls : List LkU) (top : Int) (i : Nat) (n : Int) : Int := run top (gPos (nth ls i) top) (nth ls i).poss.length (run top (gSub (nth ls i) top) (nth ls i).subs.length (lk0 (nth ls i) n))
def weightF (ls : List LkU) (top : Int) : Int := min (run top (gLk ls top) ls.length 0) (IntKind.i64.wrap (top + 1))
structure LksB (ls : List LkU) : Prop where
 len : ls.length <= 9223372036854775807
 sl : ∀ x ∈ ls, x.subs.length <= 9223372036854775807
 s : ∀ x ∈ ls, ∀ s ∈ x.subs, SubB s
 pl : ∀ x ∈ ls, x.poss.length <= 9223372036854775807
 p : ∀ x ∈ ls, ∀ p ∈ x.poss, p.bases.length <= 9223372036854775807
set_option maxHeartbeats 1000000 in
theorem weight_c (ls : List LkU) (top : Int) (hls : LksB ls) (v : Value) (w : World) (hv : Rd w v 4 luE ls) : Calls Tryz.prog 13 #[v, .int .i64 top] w fun e w' => e = .returned (.int .i64 (weightF ls top)) /\ Below w.heap.size w w' := by
 refine calls_exec (cf := cf) cfok (fn := Tryz.f13) Tryz.func13 rfl [.sl 0, .v (.int .i64 top)] [.rd LkU inferInstance 4 luE ls] (ρ := fun i => v) (· < w.heap.size) rfl rfl rfl (by simp [svOkL, svOk]) (memRd (fun _ h => h) ⟨hv, trivial⟩) ?_
 have hlen := hls.len
 refine ⟨{ z : Nat × Int // z.1 <= ls.length /\ run top (gLk ls top) ls.length (0) = loopC top (gLk ls top) ls.length (ls.length - z.1) z.1 z.2 }, fun z => ⟨123, [⟨0, [], .sl 0⟩, ⟨1, [], .v (.int .i64 top)⟩, ⟨5, [], .v (.int .i64 z.1.2)⟩, ⟨6, [], .v (.int .i64 z.1.1)⟩], [.rd LkU inferInstance 4 luE ls], [], dropL nats 1⟩, fun z => ls.length - z.1.1,
  ⟨[0], ⟨(0, 0), by show 0 <= _; omega, rfl⟩, ?_⟩, fun z => ?_⟩
 · exact aI (aI (rfl) (aI (rfl) (aI (rfl) (aI (rfl) trivial)))) (aI (rfl) trivial)
 obtain ⟨⟨i, n⟩, hi, hA⟩ := z
 have hi : i <= ls.length := hi
 have hA : run top (gLk ls top) ls.length (0) = loopC top (gLk ls top) ls.length (ls.length - i) i n := hA
 refine aI (fun hc => ?_) (fun hc => ?_)
 · have hc : (decide ((i : Int) < (ls.length : Int)) && decide (n <= top)) = true := hc
   rw [Bool.and_eq_true, decide_eq_true_iff, decide_eq_true_iff] at hc
   have hlti : i < ls.length := by omega
   rw [loopC_step top (gLk ls top) _ _ _ hlti, if_pos hc.2] at hA
   refine Or.inl ⟨by kernel_rfl, ?_⟩
   refine aI (show (0 : Int) <= (i : Int) /\ (i : Int) < (ls.length : Int) from ⟨by omega, by omega⟩) ?_
   refine aI (show (0 : Int) <= (i : Int) /\ (i : Int) < (ls.length : Int) from ⟨by omega, by omega⟩) ?_
   have hsl := hls.sl _ (nth_mem hlti)
   have hpl := hls.pl _ (nth_mem hlti)
   refine ⟨{ z : Nat × Int // z.1 <= (nth ls i).subs.length /\ run top (gSub (nth ls i) top) (nth ls i).subs.length (lk0 (nth ls i) n) = loopC top (gSub (nth ls i) top) (nth ls i).subs.length ((nth ls i).subs.length - z.1) z.1 z.2 }, fun z => ⟨123, [⟨0, [], .sl 0⟩, ⟨1, [], .v (.int .i64 top)⟩, ⟨5, [], .v (.int .i64 z.1.2)⟩, ⟨6, [], .v (.int .i64 i)⟩, ⟨7, [], .v (.int .i64 z.1.1)⟩], [.rd LkU inferInstance 4 luE ls], [], dropL nats 1⟩, fun z => (nth ls i).subs.length - z.1.1,
    ⟨[0], ⟨(0, lk0 (nth ls i) n), by show 0 <= _; omega, rfl⟩, ?_⟩, fun z => ?_⟩
   · exact aI (aI (rfl) (aI (rfl) (aI (rfl) (aI (rfl) (aI (rfl) trivial))))) (aI (rfl) trivial)
   obtain ⟨⟨k, a⟩, hk, hS⟩ := z
   have hk : k <= (nth ls i).subs.length := hk
   have hS : run top (gSub (nth ls i) top) (nth ls i).subs.length (lk0 (nth ls i) n) = loopC top (gSub (nth ls i) top) (nth ls i).subs.length ((nth ls i).subs.length - k) k a := hS
   refine aI (show (0 : Int) <= (i : Int) /\ (i : Int) < (ls.length : Int) from ⟨by omega, by omega⟩) ?_
   refine aI (fun hc => ?_) (fun hc => ?_)
   · have hc : (decide ((k : Int) < ((nth ls i).subs.length : Int)) && decide (a <= top)) = true := hc
     rw [Bool.and_eq_true, decide_eq_true_iff, decide_eq_true_iff] at hc
     have hltk : k < (nth ls i).subs.length := by omega
     rw [loopC_step top (gSub (nth ls i) top) _ _ _ hltk, if_pos hc.2] at hS
     refine aI (show (0 : Int) <= (i : Int) /\ (i : Int) < (ls.length : Int) from ⟨by omega, by omega⟩) ?_
     refine aI (show (0 : Int) <= (k : Int) /\ (k : Int) < ((nth ls i).subs.length : Int) from ⟨by omega, by omega⟩) ?_
     have hsb := (hls.s _ (nth_mem hlti)) _ (nth_mem hltk)
     refine Or.inl ⟨.int .i64 (subW (nth (nth ls i).subs k) top), fun ρ S w hm => subWeight_c (nth (nth ls i).subs k) top hsb _ _ _ _ _ _ _ w (hm.rd 3 rfl rfl) (hm.rd 4 rfl rfl) (hm.rd 5 rfl rfl) (hm.rd 6 rfl rfl) (hm.rd 7 rfl rfl) (hm.rd 8 rfl rfl) (hm.rd 9 rfl rfl), ?_⟩
     exact ⟨[0], ⟨(k + 1, gSub (nth ls i) top k a), hltk, hS⟩, aI (aI (rfl) (aI (rfl) (aI (rfl) (aI (rfl) (aI (svI (i64_succ k (by omega))) trivial))))) (aI (rfl) trivial), by show _ - (k + 1) < _ - k; omega⟩
   have hc : (decide ((k : Int) < ((nth ls i).subs.length : Int)) && decide (a <= top)) = false := hc
   rw [loopC_end top (gSub (nth ls i) top) _ _ _ (fun h1 h2 => by rw [decide_eq_true (by omega : (k : Int) < ((nth ls i).subs.length : Int)), decide_eq_true h2] at hc; cases hc)] at hS
   refine ⟨{ z : Nat × Int // z.1 <= (nth ls i).poss.length /\ run top (gPos (nth ls i) top) (nth ls i).poss.length (run top (gSub (nth ls i) top) (nth ls i).subs.length (lk0 (nth ls i) n)) = loopC top (gPos (nth ls i) top) (nth ls i).poss.length ((nth ls i).poss.length - z.1) z.1 z.2 }, fun z => ⟨123, [⟨0, [], .sl 0⟩, ⟨1, [], .v (.int .i64 top)⟩, ⟨5, [], .v (.int .i64 z.1.2)⟩, ⟨6, [], .v (.int .i64 i)⟩, ⟨8, [], .v (.int .i64 z.1.1)⟩], [.rd LkU inferInstance 4 luE ls], [], dropL nats 1⟩, fun z => (nth ls i).poss.length - z.1.1,
    ⟨[0], ⟨(0, run top (gSub (nth ls i) top) (nth ls i).subs.length (lk0 (nth ls i) n)), by show 0 <= _; omega, rfl⟩, ?_⟩, fun z => ?_⟩
   · exact aI (aI (rfl) (aI (rfl) (aI (svI hS.symm) (aI (rfl) (aI (rfl) trivial))))) (aI (rfl) trivial)
   obtain ⟨⟨q, b⟩, hq, hB⟩ := z
   have hq : q <= (nth ls i).poss.length := hq
   have hB : run top (gPos (nth ls i) top) (nth ls i).poss.length (run top (gSub (nth ls i) top) (nth ls i).subs.length (lk0 (nth ls i) n)) = loopC top (gPos (nth ls i) top) (nth ls i).poss.length ((nth ls i).poss.length - q) q b := hB
   refine aI (show (0 : Int) <= (i : Int) /\ (i : Int) < (ls.length : Int) from ⟨by omega, by omega⟩) ?_
   refine aI (fun hc => ?_) (fun hc => ?_)
   · have hc : (decide ((q : Int) < ((nth ls i).poss.length : Int)) && decide (b <= top)) = true := hc
     rw [Bool.and_eq_true, decide_eq_true_iff, decide_eq_true_iff] at hc
     have hltq : q < (nth ls i).poss.length := by omega
     rw [loopC_step top (gPos (nth ls i) top) _ _ _ hltq, if_pos hc.2] at hB
     refine aI (show (0 : Int) <= (i : Int) /\ (i : Int) < (ls.length : Int) from ⟨by omega, by omega⟩) ?_
     refine aI (show (0 : Int) <= (q : Int) /\ (q : Int) < ((nth ls i).poss.length : Int) from ⟨by omega, by omega⟩) ?_
     have hbs := (hls.p _ (nth_mem hlti)) _ (nth_mem hltq)
     refine ⟨{ z : Nat × Int // z.1 <= (nth (nth ls i).poss q).bases.length /\ run top (gBase (nth (nth ls i).poss q)) (nth (nth ls i).poss q).bases.length (IntKind.i64.wrap (IntKind.i64.wrap (b + ((nth (nth ls i).poss q).kerns.length : Int)) + ((nth (nth ls i).poss q).marks.length : Int))) = loopC top (gBase (nth (nth ls i).poss q)) (nth (nth ls i).poss q).bases.length ((nth (nth ls i).poss q).bases.length - z.1) z.1 z.2 }, fun z => ⟨123, [⟨0, [], .sl 0⟩, ⟨1, [], .v (.int .i64 top)⟩, ⟨5, [], .v (.int .i64 z.1.2)⟩, ⟨6, [], .v (.int .i64 i)⟩, ⟨8, [], .v (.int .i64 q)⟩, ⟨9, [], .bx 4 0⟩, ⟨10, [], .v (.int .i64 z.1.1)⟩], [.rd LkU inferInstance 4 luE ls, .rd Kern inferInstance 3 keE (nth (nth ls i).poss q).kerns, .rd Mark inferInstance 4 maE (nth (nth ls i).poss q).marks, .rd Base inferInstance 2 baE (nth (nth ls i).poss q).bases, .bx 42 [.sl 1, .sl 2, .sl 3]], [], dropL nats 5⟩, fun z => (nth (nth ls i).poss q).bases.length - z.1.1,
      ⟨[0, 3, 4, 5, 6], ⟨(0, IntKind.i64.wrap (IntKind.i64.wrap (b + ((nth (nth ls i).poss q).kerns.length : Int)) + ((nth (nth ls i).poss q).marks.length : Int))), by show 0 <= _; omega, rfl⟩, ?_⟩, fun z => ?_⟩
     · exact aI (aI (rfl) (aI (rfl) (aI (rfl) (aI (rfl) (aI (rfl) (aI (rfl) (aI (rfl) trivial))))))) (aI (rfl) (aI (rfl) (aI (rfl) (aI (rfl) (aI (⟨rfl, rfl⟩) trivial)))))
     obtain ⟨⟨j, c⟩, hj, hC⟩ := z
     have hj : j <= (nth (nth ls i).poss q).bases.length := hj
     have hC : run top (gBase (nth (nth ls i).poss q)) (nth (nth ls i).poss q).bases.length (IntKind.i64.wrap (IntKind.i64.wrap (b + ((nth (nth ls i).poss q).kerns.length : Int)) + ((nth (nth ls i).poss q).marks.length : Int))) = loopC top (gBase (nth (nth ls i).poss q)) (nth (nth ls i).poss q).bases.length ((nth (nth ls i).poss q).bases.length - j) j c := hC
     refine aI (fun hc => ?_) (fun hc => ?_)
     · have hc : (decide ((j : Int) < ((nth (nth ls i).poss q).bases.length : Int)) && decide (c <= top)) = true := hc
       rw [Bool.and_eq_true, decide_eq_true_iff, decide_eq_true_iff] at hc
       have hltj : j < (nth (nth ls i).poss q).bases.length := by omega
       rw [loopC_step top (gBase (nth (nth ls i).poss q)) _ _ _ hltj, if_pos hc.2] at hC
       refine aI (show (0 : Int) <= (j : Int) /\ (j : Int) < ((nth (nth ls i).poss q).bases.length : Int) from ⟨by omega, by omega⟩) ?_
       exact ⟨[0, 1, 2, 3, 4], ⟨(j + 1, gBase (nth (nth ls i).poss q) j c), hltj, hC⟩, aI (aI (rfl) (aI (rfl) (aI (rfl) (aI (rfl) (aI (rfl) (aI (rfl) (aI (svI (i64_succ j (by omega))) trivial))))))) (aI (rfl) (aI (rfl) (aI (rfl) (aI (rfl) (aI (⟨rfl, rfl⟩) trivial))))), by show _ - (j + 1) < _ - j; omega⟩
     have hc : (decide ((j : Int) < ((nth (nth ls i).poss q).bases.length : Int)) && decide (c <= top)) = false := hc
     rw [loopC_end top (gBase (nth (nth ls i).poss q)) _ _ _ (fun h1 h2 => by rw [decide_eq_true (by omega : (j : Int) < ((nth (nth ls i).poss q).bases.length : Int)), decide_eq_true h2] at hc; cases hc)] at hC
     exact ⟨[0], ⟨(q + 1, gPos (nth ls i) top q b), hltq, hB⟩, aI (aI (rfl) (aI (rfl) (aI (svI hC.symm) (aI (rfl) (aI (svI (i64_succ q (by omega))) trivial))))) (aI (rfl) trivial), by show _ - (q + 1) < _ - q; omega⟩
   have hc : (decide ((q : Int) < ((nth ls i).poss.length : Int)) && decide (b <= top)) = false := hc
   rw [loopC_end top (gPos (nth ls i) top) _ _ _ (fun h1 h2 => by rw [decide_eq_true (by omega : (q : Int) < ((nth ls i).poss.length : Int)), decide_eq_true h2] at hc; cases hc)] at hB
   exact ⟨[0], ⟨(i + 1, gLk ls top i n), hlti, hA⟩, aI (aI (rfl) (aI (rfl) (aI (svI hB.symm) (aI (svI (i64_succ i (by omega))) trivial)))) (aI (rfl) trivial), by show _ - (i + 1) < _ - i; omega⟩
 have hc : (decide ((i : Int) < (ls.length : Int)) && decide (n <= top)) = false := hc
 rw [loopC_end top (gLk ls top) _ _ _ (fun h1 h2 => by rw [decide_eq_true (by omega : (i : Int) < (ls.length : Int)), decide_eq_true h2] at hc; cases hc)] at hA
 exact fun ρ S w' hi => ⟨retI (congrArg (fun z => min z (IntKind.i64.wrap (top + 1))) hA.symm), hi.below⟩
def rB : Nat := 140737488351232
theorem loopC_le {top : Int} {g : Nat -> Int -> Int} {wt : Nat -> Nat} {len : Nat} (hg : ∀ i, i < len -> ∀ n, 0 <= n -> n <= top -> 0 <= g i n /\ (g i n <= top -> g i n = n + (wt i : Int))) :
 ∀ (k i : Nat) (n : Int), i + k = len -> 0 <= n -> 0 <= loopC top g len k i n /\ (loopC top g len k i n <= top -> loopC top g len k i n = n + ((((List.range k).map fun j => wt (i + j)).sum : Nat) : Int))
 | 0, i, n, _, hn => ⟨hn, fun _ => by show n = n + _; simp⟩
 | k + 1, i, n, hi, hn => by
  by_cases h : n <= top
  · obtain ⟨h1, h2⟩ := hg i (by omega) n hn h
    obtain ⟨r1, r2⟩ := loopC_le hg k (i + 1) (g i n) (by omega) h1
    rw [loopC, if_pos h]
    refine ⟨r1, fun hle => ?_⟩
    have e := r2 hle
    have hp : 0 <= ((((List.range k).map fun j => wt (i + 1 + j)).sum : Nat) : Int) := Int.natCast_nonneg _
    have e2 := h2 (by omega)
    have es : ((List.range (k + 1)).map fun j => wt (i + j)).sum = wt i + ((List.range k).map fun j => wt (i + 1 + j)).sum := by
     rw [List.range_succ_eq_map, List.map_cons, List.map_map, List.sum_cons]
     congr 2
     refine List.map_congr_left fun j _ => ?_
     show wt (i + (j + 1)) = wt (i + 1 + j)
     congr 1
     omega
    rw [e, e2, es]
    push_cast
    omega
  · rw [loopC, if_neg h]
    exact ⟨hn, fun hle => absurd hle h⟩
theorem run_le {top : Int} {g : Nat -> Int -> Int} {α : Type} [Inhabited α] {l : List α} {wt : α -> Nat} (hg : ∀ i, i < l.length -> ∀ n, 0 <= n -> n <= top -> 0 <= g i n /\ (g i n <= top -> g i n = n + (wt (nth l i) : Int))) {n : Int} (hn : 0 <= n) :
 0 <= run top g l.length n /\ (run top g l.length n <= top -> run top g l.length n = n + (((l.map wt).sum : Nat) : Int)) := by
 have h := loopC_le (wt := fun i => wt (nth l i)) hg l.length 0 n (by omega) hn
 have e : ((List.range l.length).map fun j => wt (nth l (0 + j))) = l.map wt := by
  refine List.ext_getElem (by simp) fun i h1 h2 => ?_
  have hi : i < l.length := by simpa using h2
  rw [List.getElem_map, List.getElem_map, List.getElem_range, Nat.zero_add, nthE hi]
 rw [e] at h
 exact h
def bWt (b : Base) : Nat := 1 + b.an.length
def pWt (p : PosU) : Nat := p.kerns.length + p.marks.length + (p.bases.map bWt).sum
def lWt (l : LkU) : Nat := 1 + l.poss.length + (l.poss.map pWt).sum
def wtot (ls : List LkU) : Nat := (ls.map lWt).sum
structure LksR (ls : List LkU) : Prop where
 len : ls.length <= rB
 pl : ∀ x ∈ ls, x.poss.length <= rB
 k : ∀ x ∈ ls, ∀ p ∈ x.poss, p.kerns.length <= rB /\ p.marks.length <= rB /\ ∀ b ∈ p.bases, b.an.length <= rB
theorem addG_eq {len : Nat} {n top : Int} (hl : len <= rB) (hn : 0 <= n) (h : n <= top) (ht : top <= 100000) : addG (len : Int) n = n + ((1 + len : Nat) : Int) := by
 unfold rB at hl
 unfold addG
 rw [i64_id (n + 1) (by omega) (by omega), i64_id _ (by omega) (by omega)]
 push_cast
 omega
theorem weight_le {ls : List LkU} {top : Int} (hr : LksR ls) (hs : ∀ l ∈ ls, l.subs = []) (h0 : 0 <= top) (ht : top <= 100000) (h : weightF ls top <= top) : (wtot ls : Int) <= top := by
 have hB : rB = 140737488351232 := rfl
 have key := run_le (top := top) (g := gLk ls top) (l := ls) (wt := lWt) (fun i hi n hn hnt => by
  have hm := nth_mem hi
  have pl := hr.pl _ hm
  have kk := hr.k _ hm
  have e0 : lk0 (nth ls i) n = n + ((1 + (nth ls i).poss.length : Nat) : Int) := by
   unfold lk0
   rw [hs _ hm]
   simp only [List.length_nil]
   rw [i64_id (n + 1) (by omega) (by omega), i64_id (n + 1 + ((0 : Nat) : Int)) (by omega) (by omega), i64_id _ (by omega) (by omega)]
   push_cast
   omega
  have e1 : run top (gSub (nth ls i) top) (nth ls i).subs.length (lk0 (nth ls i) n) = lk0 (nth ls i) n := by rw [hs _ hm]; rfl
  unfold gLk
  rw [e1, e0]
  generalize nth ls i = l at *
  have r := run_le (top := top) (g := gPos l top) (l := l.poss) (wt := pWt) (fun q hq m hm0 hmt => by
   obtain ⟨k1, k2, k3⟩ := kk _ (nth_mem hq)
   unfold gPos
   rw [i64_id (m + ((nth l.poss q).kerns.length : Int)) (by omega) (by omega), i64_id _ (by omega) (by omega)]
   generalize nth l.poss q = p at *
   have r := run_le (top := top) (g := gBase p) (l := p.bases) (wt := bWt) (fun j hj z hz hzt => by
    have e := addG_eq (k3 _ (nth_mem hj)) hz hzt ht
    unfold gBase
    rw [e]
    exact ⟨by omega, fun _ => rfl⟩) (n := m + (p.kerns.length : Int) + (p.marks.length : Int)) (by omega)
   refine ⟨r.1, fun hle => ?_⟩
   rw [r.2 hle]
   unfold pWt
   push_cast
   omega) (n := n + ((1 + l.poss.length : Nat) : Int)) (by omega)
  refine ⟨r.1, fun hle => ?_⟩
  rw [r.2 hle]
  unfold lWt
  push_cast
  omega) (n := 0) (by omega)
 unfold weightF at h
 rw [i64_id (top + 1) (by omega) (by omega)] at h
 have hle : run top (gLk ls top) ls.length 0 <= top := by omega
 have e := key.2 hle
 unfold wtot
 omega
end Go.Proofs.YtjflgkadagkllaaGreat
