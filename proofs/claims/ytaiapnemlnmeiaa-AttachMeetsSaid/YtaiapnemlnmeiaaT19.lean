/- calamuskit.subWeight: how it is counted. -/
import Derived.Test.YtaiapnemlnmeiaaT18
namespace Go.Proofs.Ytaiapnemlnmeiaa
open Go Go.Eng Go.RowKit

/-- a count that ends early -/
def loopC (top : Int) (g : Nat → Int → Int) (len : Nat) : Nat → Nat → Int → Int
  | 0, _, n => n
  | k + 1, i, n => if n ≤ top then loopC top g len k (i + 1) (g i n) else n
def run (top : Int) (g : Nat → Int → Int) (len : Nat) (n : Int) : Int := loopC top g len len 0 n
theorem loopC_step (top : Int) (g : Nat → Int → Int) (len i : Nat) (n : Int) (h : i < len) : loopC top g len (len - i) i n = if n ≤ top then loopC top g len (len - (i + 1)) (i + 1) (g i n) else n := by
  rw [show len - i = (len - (i + 1)) + 1 from by omega]; rfl
theorem loopC_end (top : Int) (g : Nat → Int → Int) (len i : Nat) (n : Int) (h : i < len → n ≤ top → False) : loopC top g len (len - i) i n = n := by
  by_cases hi : i < len
  · rw [loopC_step top g len i n hi, if_neg (fun h2 => h hi h2)]
  · rw [show len - i = 0 from by omega]; rfl
def addG (len : Int) (n : Int) : Int := IntKind.i64.wrap (IntKind.i64.wrap (n + 1) + len)
def gMany (s : Sub) (j : Nat) (n : Int) : Int := addG ((nth s.manys j).to.length : Nat) n
def gLig (s : Sub) (j : Nat) (n : Int) : Int := addG ((nth s.ligs j).parts.length : Nat) n
def gRow (l : List (List Int)) (j : Nat) (n : Int) : Int := addG ((nth l j).length : Nat) n
def sw0 (s : Sub) : Int := IntKind.i64.wrap ((s.pairs.length : Int) + (s.recs.length : Int))
def sw1 (s : Sub) (top : Int) : Int := run top (gMany s) s.manys.length (sw0 s)
def sw2 (s : Sub) (top : Int) : Int := run top (gLig s) s.ligs.length (sw1 s top)
def rows3 (s : Sub) : List (List (List Int)) := [s.back, s.ins, s.ahead]
def sw3 (s : Sub) (top : Int) : Nat → Int
  | 0 => sw2 s top
  | i + 1 => run top (gRow (nth (rows3 s) i)) (nth (rows3 s) i).length (sw3 s top i)
def subW (s : Sub) (top : Int) : Int := sw3 s top 3
structure SubB (s : Sub) : Prop where
  m : s.manys.length ≤ 9223372036854775807
  l : s.ligs.length ≤ 9223372036854775807
  b : s.back.length ≤ 9223372036854775807
  i : s.ins.length ≤ 9223372036854775807
  a : s.ahead.length ≤ 9223372036854775807
theorem SubB.row {s : Sub} (h : SubB s) : ∀ i, i < 3 → (nth (rows3 s) i).length ≤ 9223372036854775807
  | 0, _ => h.b
  | 1, _ => h.i
  | 2, _ => h.a
abbrev w3E : List (List Int) → List DV := fun l => [.sl (List Int) inferInstance 1 wsE l]

theorem subWeight_c (s : Sub) (top : Int) (hs : SubB s) (v0 v1 v2 v3 v4 v5 v6 : Value) (w : World) (h0 : Rd w v0 2 paE s.pairs) (h1 : Rd w v1 2 myE s.manys) (h2 : Rd w v2 2 liE s.ligs) (h3 : Rd w v3 1 wsE s.back) (h4 : Rd w v4 1 wsE s.ins) (h5 : Rd w v5 1 wsE s.ahead) (h6 : Rd w v6 2 reE s.recs) :
    Calls Try.prog 21 #[.agg #[v0, v1, v2, v3, v4, v5, v6], .int .i64 top] w fun e w' => e = .returned (.int .i64 (subW s top)) ∧ Below w.heap.size w w' := by
  refine calls_exec (cf := cf) cfok (fn := Try.f21) Try.func21 rfl [.agg [.sl 0, .sl 1, .sl 2, .sl 3, .sl 4, .sl 5, .sl 6], .v (.int .i64 top)] [.rd Pair2 inferInstance 2 paE s.pairs, .rd Many inferInstance 2 myE s.manys, .rd Lig inferInstance 2 liE s.ligs, .rd (List Int) inferInstance 1 wsE s.back, .rd (List Int) inferInstance 1 wsE s.ins, .rd (List Int) inferInstance 1 wsE s.ahead, .rd Pair2 inferInstance 2 reE s.recs]
    (ρ := fun i => match i with | 0 => v0 | 1 => v1 | 2 => v2 | 3 => v3 | 4 => v4 | 5 => v5 | _ => v6) (· < w.heap.size) rfl rfl rfl (by simp [svOkL, svOk]) (memRd (fun _ h => h) ⟨h0, h1, h2, h3, h4, h5, h6, trivial⟩) ?_
  have hm := hs.m
  have hl := hs.l
  refine ⟨{ j : Nat × Int // j.1 ≤ s.manys.length ∧ run top (gMany s) s.manys.length (sw0 s) = loopC top (gMany s) s.manys.length (s.manys.length - j.1) j.1 j.2 }, fun j => ⟨95, [⟨1, [], .v (.int .i64 top)⟩, ⟨2, [], .bx 7 0⟩, ⟨5, [], .v (.int .i64 j.1.2)⟩, ⟨6, [], .v (.int .i64 j.1.1)⟩], [.rd Pair2 inferInstance 2 paE s.pairs, .rd Many inferInstance 2 myE s.manys, .rd Lig inferInstance 2 liE s.ligs, .rd (List Int) inferInstance 1 wsE s.back, .rd (List Int) inferInstance 1 wsE s.ins, .rd (List Int) inferInstance 1 wsE s.ahead, .rd Pair2 inferInstance 2 reE s.recs, .bx 98 [.sl 0, .sl 1, .sl 2, .sl 3, .sl 4, .sl 5, .sl 6]], [], dropL nats 8⟩, fun j => s.manys.length - j.1.1,
    ⟨[0, 1, 2, 3, 4, 5, 6, 7], ⟨(0, sw0 s), by show 0 ≤ _; omega, rfl⟩, ?_⟩, fun j => ?_⟩
  · exact And.intro (And.intro (rfl) (And.intro (rfl) (And.intro (rfl) (And.intro (rfl) trivial)))) (And.intro (rfl) (And.intro (rfl) (And.intro (rfl) (And.intro (rfl) (And.intro (rfl) (And.intro (rfl) (And.intro (rfl) (And.intro (⟨rfl, rfl⟩) trivial))))))))
  obtain ⟨⟨j, n⟩, hj, hall⟩ := j
  have hj : j ≤ s.manys.length := hj
  have hall : run top (gMany s) s.manys.length (sw0 s) = loopC top (gMany s) s.manys.length (s.manys.length - j) j n := hall
  refine And.intro (fun hc => ?_) (fun hc => ?_)
  · have hc : (decide ((j : Int) < (s.manys.length : Int)) && decide (n ≤ top)) = true := hc
    rw [Bool.and_eq_true, decide_eq_true_iff, decide_eq_true_iff] at hc
    have hlt : j < s.manys.length := by omega
    rw [loopC_step top (gMany s) _ _ _ hlt, if_pos hc.2] at hall
    refine And.intro (show (0 : Int) ≤ (j : Int) ∧ (j : Int) < (s.manys.length : Int) from ⟨by omega, by omega⟩) ?_
    exact ⟨[0, 1, 2, 3, 4, 5, 6, 7], ⟨(j + 1, (gMany s) j n), hlt, hall⟩, And.intro (And.intro (rfl) (And.intro (rfl) (And.intro (rfl) (And.intro (svI (i64_succ j (by omega))) trivial)))) (And.intro (rfl) (And.intro (rfl) (And.intro (rfl) (And.intro (rfl) (And.intro (rfl) (And.intro (rfl) (And.intro (rfl) (And.intro (⟨rfl, rfl⟩) trivial)))))))), by show _ - (j + 1) < _ - j; omega⟩
  have hc : (decide ((j : Int) < (s.manys.length : Int)) && decide (n ≤ top)) = false := hc
  rw [loopC_end top (gMany s) _ _ _ (fun h1 h2 => by rw [decide_eq_true (by omega : (j : Int) < (s.manys.length : Int)), decide_eq_true h2] at hc; cases hc)] at hall
  have e1 : n = sw1 s top := hall.symm
  subst e1
  clear hall hc
  refine ⟨{ j : Nat × Int // j.1 ≤ s.ligs.length ∧ run top (gLig s) s.ligs.length (sw1 s top) = loopC top (gLig s) s.ligs.length (s.ligs.length - j.1) j.1 j.2 }, fun j => ⟨95, [⟨1, [], .v (.int .i64 top)⟩, ⟨2, [], .bx 7 0⟩, ⟨5, [], .v (.int .i64 j.1.2)⟩, ⟨7, [], .v (.int .i64 j.1.1)⟩], [.rd Pair2 inferInstance 2 paE s.pairs, .rd Many inferInstance 2 myE s.manys, .rd Lig inferInstance 2 liE s.ligs, .rd (List Int) inferInstance 1 wsE s.back, .rd (List Int) inferInstance 1 wsE s.ins, .rd (List Int) inferInstance 1 wsE s.ahead, .rd Pair2 inferInstance 2 reE s.recs, .bx 98 [.sl 0, .sl 1, .sl 2, .sl 3, .sl 4, .sl 5, .sl 6]], [], dropL nats 8⟩, fun j => s.ligs.length - j.1.1,
    ⟨[0, 1, 2, 3, 4, 5, 6, 7], ⟨(0, sw1 s top), by show 0 ≤ _; omega, rfl⟩, ?_⟩, fun j => ?_⟩
  · exact And.intro (And.intro (rfl) (And.intro (rfl) (And.intro (rfl) (And.intro (rfl) trivial)))) (And.intro (rfl) (And.intro (rfl) (And.intro (rfl) (And.intro (rfl) (And.intro (rfl) (And.intro (rfl) (And.intro (rfl) (And.intro (⟨rfl, rfl⟩) trivial))))))))
  obtain ⟨⟨j, n⟩, hj, hall⟩ := j
  have hj : j ≤ s.ligs.length := hj
  have hall : run top (gLig s) s.ligs.length (sw1 s top) = loopC top (gLig s) s.ligs.length (s.ligs.length - j) j n := hall
  refine And.intro (fun hc => ?_) (fun hc => ?_)
  · have hc : (decide ((j : Int) < (s.ligs.length : Int)) && decide (n ≤ top)) = true := hc
    rw [Bool.and_eq_true, decide_eq_true_iff, decide_eq_true_iff] at hc
    have hlt : j < s.ligs.length := by omega
    rw [loopC_step top (gLig s) _ _ _ hlt, if_pos hc.2] at hall
    refine And.intro (show (0 : Int) ≤ (j : Int) ∧ (j : Int) < (s.ligs.length : Int) from ⟨by omega, by omega⟩) ?_
    exact ⟨[0, 1, 2, 3, 4, 5, 6, 7], ⟨(j + 1, (gLig s) j n), hlt, hall⟩, And.intro (And.intro (rfl) (And.intro (rfl) (And.intro (rfl) (And.intro (svI (i64_succ j (by omega))) trivial)))) (And.intro (rfl) (And.intro (rfl) (And.intro (rfl) (And.intro (rfl) (And.intro (rfl) (And.intro (rfl) (And.intro (rfl) (And.intro (⟨rfl, rfl⟩) trivial)))))))), by show _ - (j + 1) < _ - j; omega⟩
  have hc : (decide ((j : Int) < (s.ligs.length : Int)) && decide (n ≤ top)) = false := hc
  rw [loopC_end top (gLig s) _ _ _ (fun h1 h2 => by rw [decide_eq_true (by omega : (j : Int) < (s.ligs.length : Int)), decide_eq_true h2] at hc; cases hc)] at hall
  have e2 : n = sw2 s top := hall.symm
  subst e2
  clear hall hc
  refine ⟨{ i : Nat // i ≤ 3 }, fun i => ⟨95, [⟨1, [], .v (.int .i64 top)⟩, ⟨2, [], .bx 7 0⟩, ⟨5, [], .v (.int .i64 (sw3 s top i.1))⟩, ⟨68, [], .sl 8⟩, ⟨69, [], .v (.int .i64 3)⟩, ⟨70, [], .v (.int .i64 i.1)⟩], [.rd Pair2 inferInstance 2 paE s.pairs, .rd Many inferInstance 2 myE s.manys, .rd Lig inferInstance 2 liE s.ligs, .rd (List Int) inferInstance 1 wsE s.back, .rd (List Int) inferInstance 1 wsE s.ins, .rd (List Int) inferInstance 1 wsE s.ahead, .rd Pair2 inferInstance 2 reE s.recs, .bx 98 [.sl 0, .sl 1, .sl 2, .sl 3, .sl 4, .sl 5, .sl 6]] ++ [.raw 95 3 1 [.sl 3, .sl 4, .sl 5]], [], dropL nats 9⟩, fun i => 3 - i.1,
    ⟨[0, 1, 2, 3, 4, 5, 6, 7, 8], ⟨0, by omega⟩, ?_⟩, fun i => ?_⟩
  · exact And.intro (And.intro (rfl) (And.intro (rfl) (And.intro (rfl) (And.intro (rfl) (And.intro (rfl) (And.intro (rfl) trivial)))))) (And.intro (rfl) (And.intro (rfl) (And.intro (rfl) (And.intro (rfl) (And.intro (rfl) (And.intro (rfl) (And.intro (rfl) (And.intro (⟨rfl, rfl⟩) (And.intro (⟨rfl, rfl, rfl, rfl⟩) trivial)))))))))
  obtain ⟨i, hi⟩ := i
  refine And.intro (fun hlt => ?_) (fun hge => ?_)
  · have hlt : i < 3 := by have : (i : Int) < 3 := of_decide_eq_true hlt
                           omega
    refine And.intro (show (0 : Int) ≤ (i : Int) ∧ (i : Int) < 3 from ⟨by omega, by omega⟩) ?_
    have hbb := hs.b
    have hbi := hs.i
    have hba := hs.a
    obtain rfl | rfl | rfl : i = 0 ∨ i = 1 ∨ i = 2 := by omega
    · refine ⟨{ j : Nat × Int // j.1 ≤ s.back.length ∧ run top (gRow s.back) s.back.length (sw3 s top 0) = loopC top (gRow s.back) s.back.length (s.back.length - j.1) j.1 j.2 }, fun j => ⟨95, [⟨1, [], .v (.int .i64 top)⟩, ⟨2, [], .bx 7 0⟩, ⟨5, [], .v (.int .i64 j.1.2)⟩, ⟨68, [], .sl 8⟩, ⟨69, [], .v (.int .i64 3)⟩, ⟨70, [], .v (.int .i64 ((0 : Nat) : Int))⟩, ⟨9, [], .sl 3⟩, ⟨10, [], .v (.int .i64 j.1.1)⟩], [.rd Pair2 inferInstance 2 paE s.pairs, .rd Many inferInstance 2 myE s.manys, .rd Lig inferInstance 2 liE s.ligs, .rd (List Int) inferInstance 1 wsE s.back, .rd (List Int) inferInstance 1 wsE s.ins, .rd (List Int) inferInstance 1 wsE s.ahead, .rd Pair2 inferInstance 2 reE s.recs, .bx 98 [.sl 0, .sl 1, .sl 2, .sl 3, .sl 4, .sl 5, .sl 6]] ++ [.raw 95 3 1 [.sl 3, .sl 4, .sl 5]], [], dropL nats 9⟩, fun j => s.back.length - j.1.1,
        ⟨[0, 1, 2, 3, 4, 5, 6, 7, 8], ⟨(0, sw3 s top 0), by show 0 ≤ _; omega, rfl⟩, ?_⟩, fun j => ?_⟩
      · exact And.intro (And.intro (rfl) (And.intro (rfl) (And.intro (rfl) (And.intro (rfl) (And.intro (rfl) (And.intro (rfl) (And.intro (rfl) (And.intro (rfl) trivial)))))))) (And.intro (rfl) (And.intro (rfl) (And.intro (rfl) (And.intro (rfl) (And.intro (rfl) (And.intro (rfl) (And.intro (rfl) (And.intro (⟨rfl, rfl⟩) (And.intro (⟨rfl, rfl, rfl, rfl⟩) trivial)))))))))
      obtain ⟨⟨j, n⟩, hj, hall⟩ := j
      have hj : j ≤ s.back.length := hj
      have hall : run top (gRow s.back) s.back.length (sw3 s top 0) = loopC top (gRow s.back) s.back.length (s.back.length - j) j n := hall
      refine And.intro (fun hc => ?_) (fun hc => ?_)
      · have hc : (decide ((j : Int) < (s.back.length : Int)) && decide (n ≤ top)) = true := hc
        rw [Bool.and_eq_true, decide_eq_true_iff, decide_eq_true_iff] at hc
        have hlt' : j < s.back.length := by omega
        rw [loopC_step top _ _ _ _ hlt', if_pos hc.2] at hall
        refine And.intro (show (0 : Int) ≤ (j : Int) ∧ (j : Int) < (s.back.length : Int) from ⟨by omega, by omega⟩) ?_
        exact ⟨[0, 1, 2, 3, 4, 5, 6, 7, 8], ⟨(j + 1, gRow s.back j n), hlt', hall⟩, And.intro (And.intro (rfl) (And.intro (rfl) (And.intro (rfl) (And.intro (rfl) (And.intro (rfl) (And.intro (rfl) (And.intro (rfl) (And.intro (svI (i64_succ j (by omega))) trivial)))))))) (And.intro (rfl) (And.intro (rfl) (And.intro (rfl) (And.intro (rfl) (And.intro (rfl) (And.intro (rfl) (And.intro (rfl) (And.intro (⟨rfl, rfl⟩) (And.intro (⟨rfl, rfl, rfl, rfl⟩) trivial))))))))), by show _ - (j + 1) < _ - j; omega⟩
      have hc : (decide ((j : Int) < (s.back.length : Int)) && decide (n ≤ top)) = false := hc
      rw [loopC_end top _ _ _ _ (fun h1 h2 => by rw [decide_eq_true (by omega : (j : Int) < (s.back.length : Int)), decide_eq_true h2] at hc; cases hc)] at hall
      exact ⟨[0, 1, 2, 3, 4, 5, 6, 7, 8], ⟨1, by omega⟩, And.intro (And.intro (rfl) (And.intro (rfl) (And.intro (svI hall.symm) (And.intro (rfl) (And.intro (rfl) (And.intro (rfl) trivial)))))) (And.intro (rfl) (And.intro (rfl) (And.intro (rfl) (And.intro (rfl) (And.intro (rfl) (And.intro (rfl) (And.intro (rfl) (And.intro (⟨rfl, rfl⟩) (And.intro (⟨rfl, rfl, rfl, rfl⟩) trivial))))))))), by show 3 - 1 < 3 - 0; omega⟩
    · refine ⟨{ j : Nat × Int // j.1 ≤ s.ins.length ∧ run top (gRow s.ins) s.ins.length (sw3 s top 1) = loopC top (gRow s.ins) s.ins.length (s.ins.length - j.1) j.1 j.2 }, fun j => ⟨95, [⟨1, [], .v (.int .i64 top)⟩, ⟨2, [], .bx 7 0⟩, ⟨5, [], .v (.int .i64 j.1.2)⟩, ⟨68, [], .sl 8⟩, ⟨69, [], .v (.int .i64 3)⟩, ⟨70, [], .v (.int .i64 ((1 : Nat) : Int))⟩, ⟨9, [], .sl 4⟩, ⟨10, [], .v (.int .i64 j.1.1)⟩], [.rd Pair2 inferInstance 2 paE s.pairs, .rd Many inferInstance 2 myE s.manys, .rd Lig inferInstance 2 liE s.ligs, .rd (List Int) inferInstance 1 wsE s.back, .rd (List Int) inferInstance 1 wsE s.ins, .rd (List Int) inferInstance 1 wsE s.ahead, .rd Pair2 inferInstance 2 reE s.recs, .bx 98 [.sl 0, .sl 1, .sl 2, .sl 3, .sl 4, .sl 5, .sl 6]] ++ [.raw 95 3 1 [.sl 3, .sl 4, .sl 5]], [], dropL nats 9⟩, fun j => s.ins.length - j.1.1,
        ⟨[0, 1, 2, 3, 4, 5, 6, 7, 8], ⟨(0, sw3 s top 1), by show 0 ≤ _; omega, rfl⟩, ?_⟩, fun j => ?_⟩
      · exact And.intro (And.intro (rfl) (And.intro (rfl) (And.intro (rfl) (And.intro (rfl) (And.intro (rfl) (And.intro (rfl) (And.intro (rfl) (And.intro (rfl) trivial)))))))) (And.intro (rfl) (And.intro (rfl) (And.intro (rfl) (And.intro (rfl) (And.intro (rfl) (And.intro (rfl) (And.intro (rfl) (And.intro (⟨rfl, rfl⟩) (And.intro (⟨rfl, rfl, rfl, rfl⟩) trivial)))))))))
      obtain ⟨⟨j, n⟩, hj, hall⟩ := j
      have hj : j ≤ s.ins.length := hj
      have hall : run top (gRow s.ins) s.ins.length (sw3 s top 1) = loopC top (gRow s.ins) s.ins.length (s.ins.length - j) j n := hall
      refine And.intro (fun hc => ?_) (fun hc => ?_)
      · have hc : (decide ((j : Int) < (s.ins.length : Int)) && decide (n ≤ top)) = true := hc
        rw [Bool.and_eq_true, decide_eq_true_iff, decide_eq_true_iff] at hc
        have hlt' : j < s.ins.length := by omega
        rw [loopC_step top _ _ _ _ hlt', if_pos hc.2] at hall
        refine And.intro (show (0 : Int) ≤ (j : Int) ∧ (j : Int) < (s.ins.length : Int) from ⟨by omega, by omega⟩) ?_
        exact ⟨[0, 1, 2, 3, 4, 5, 6, 7, 8], ⟨(j + 1, gRow s.ins j n), hlt', hall⟩, And.intro (And.intro (rfl) (And.intro (rfl) (And.intro (rfl) (And.intro (rfl) (And.intro (rfl) (And.intro (rfl) (And.intro (rfl) (And.intro (svI (i64_succ j (by omega))) trivial)))))))) (And.intro (rfl) (And.intro (rfl) (And.intro (rfl) (And.intro (rfl) (And.intro (rfl) (And.intro (rfl) (And.intro (rfl) (And.intro (⟨rfl, rfl⟩) (And.intro (⟨rfl, rfl, rfl, rfl⟩) trivial))))))))), by show _ - (j + 1) < _ - j; omega⟩
      have hc : (decide ((j : Int) < (s.ins.length : Int)) && decide (n ≤ top)) = false := hc
      rw [loopC_end top _ _ _ _ (fun h1 h2 => by rw [decide_eq_true (by omega : (j : Int) < (s.ins.length : Int)), decide_eq_true h2] at hc; cases hc)] at hall
      exact ⟨[0, 1, 2, 3, 4, 5, 6, 7, 8], ⟨2, by omega⟩, And.intro (And.intro (rfl) (And.intro (rfl) (And.intro (svI hall.symm) (And.intro (rfl) (And.intro (rfl) (And.intro (rfl) trivial)))))) (And.intro (rfl) (And.intro (rfl) (And.intro (rfl) (And.intro (rfl) (And.intro (rfl) (And.intro (rfl) (And.intro (rfl) (And.intro (⟨rfl, rfl⟩) (And.intro (⟨rfl, rfl, rfl, rfl⟩) trivial))))))))), by show 3 - 2 < 3 - 1; omega⟩
    · refine ⟨{ j : Nat × Int // j.1 ≤ s.ahead.length ∧ run top (gRow s.ahead) s.ahead.length (sw3 s top 2) = loopC top (gRow s.ahead) s.ahead.length (s.ahead.length - j.1) j.1 j.2 }, fun j => ⟨95, [⟨1, [], .v (.int .i64 top)⟩, ⟨2, [], .bx 7 0⟩, ⟨5, [], .v (.int .i64 j.1.2)⟩, ⟨68, [], .sl 8⟩, ⟨69, [], .v (.int .i64 3)⟩, ⟨70, [], .v (.int .i64 ((2 : Nat) : Int))⟩, ⟨9, [], .sl 5⟩, ⟨10, [], .v (.int .i64 j.1.1)⟩], [.rd Pair2 inferInstance 2 paE s.pairs, .rd Many inferInstance 2 myE s.manys, .rd Lig inferInstance 2 liE s.ligs, .rd (List Int) inferInstance 1 wsE s.back, .rd (List Int) inferInstance 1 wsE s.ins, .rd (List Int) inferInstance 1 wsE s.ahead, .rd Pair2 inferInstance 2 reE s.recs, .bx 98 [.sl 0, .sl 1, .sl 2, .sl 3, .sl 4, .sl 5, .sl 6]] ++ [.raw 95 3 1 [.sl 3, .sl 4, .sl 5]], [], dropL nats 9⟩, fun j => s.ahead.length - j.1.1,
        ⟨[0, 1, 2, 3, 4, 5, 6, 7, 8], ⟨(0, sw3 s top 2), by show 0 ≤ _; omega, rfl⟩, ?_⟩, fun j => ?_⟩
      · exact And.intro (And.intro (rfl) (And.intro (rfl) (And.intro (rfl) (And.intro (rfl) (And.intro (rfl) (And.intro (rfl) (And.intro (rfl) (And.intro (rfl) trivial)))))))) (And.intro (rfl) (And.intro (rfl) (And.intro (rfl) (And.intro (rfl) (And.intro (rfl) (And.intro (rfl) (And.intro (rfl) (And.intro (⟨rfl, rfl⟩) (And.intro (⟨rfl, rfl, rfl, rfl⟩) trivial)))))))))
      obtain ⟨⟨j, n⟩, hj, hall⟩ := j
      have hj : j ≤ s.ahead.length := hj
      have hall : run top (gRow s.ahead) s.ahead.length (sw3 s top 2) = loopC top (gRow s.ahead) s.ahead.length (s.ahead.length - j) j n := hall
      refine And.intro (fun hc => ?_) (fun hc => ?_)
      · have hc : (decide ((j : Int) < (s.ahead.length : Int)) && decide (n ≤ top)) = true := hc
        rw [Bool.and_eq_true, decide_eq_true_iff, decide_eq_true_iff] at hc
        have hlt' : j < s.ahead.length := by omega
        rw [loopC_step top _ _ _ _ hlt', if_pos hc.2] at hall
        refine And.intro (show (0 : Int) ≤ (j : Int) ∧ (j : Int) < (s.ahead.length : Int) from ⟨by omega, by omega⟩) ?_
        exact ⟨[0, 1, 2, 3, 4, 5, 6, 7, 8], ⟨(j + 1, gRow s.ahead j n), hlt', hall⟩, And.intro (And.intro (rfl) (And.intro (rfl) (And.intro (rfl) (And.intro (rfl) (And.intro (rfl) (And.intro (rfl) (And.intro (rfl) (And.intro (svI (i64_succ j (by omega))) trivial)))))))) (And.intro (rfl) (And.intro (rfl) (And.intro (rfl) (And.intro (rfl) (And.intro (rfl) (And.intro (rfl) (And.intro (rfl) (And.intro (⟨rfl, rfl⟩) (And.intro (⟨rfl, rfl, rfl, rfl⟩) trivial))))))))), by show _ - (j + 1) < _ - j; omega⟩
      have hc : (decide ((j : Int) < (s.ahead.length : Int)) && decide (n ≤ top)) = false := hc
      rw [loopC_end top _ _ _ _ (fun h1 h2 => by rw [decide_eq_true (by omega : (j : Int) < (s.ahead.length : Int)), decide_eq_true h2] at hc; cases hc)] at hall
      exact ⟨[0, 1, 2, 3, 4, 5, 6, 7, 8], ⟨3, by omega⟩, And.intro (And.intro (rfl) (And.intro (rfl) (And.intro (svI hall.symm) (And.intro (rfl) (And.intro (rfl) (And.intro (rfl) trivial)))))) (And.intro (rfl) (And.intro (rfl) (And.intro (rfl) (And.intro (rfl) (And.intro (rfl) (And.intro (rfl) (And.intro (rfl) (And.intro (⟨rfl, rfl⟩) (And.intro (⟨rfl, rfl, rfl, rfl⟩) trivial))))))))), by show 3 - 3 < 3 - 2; omega⟩
  have hge : i = 3 := by have : ¬ (i : Int) < 3 := of_decide_eq_false hge
                         omega
  subst hge
  exact fun ρ S w' hi => ⟨rfl, hi.below⟩
end Go.Proofs.Ytaiapnemlnmeiaa
