/- The reference's numbers: zero, minus. -/
import Derived.Test.YtfjkajlkehjnnaaGreatDoorG8
namespace Go.Proofs.YtfjkajlkehjnnaaGreatDoor
open Go Go.Eng Go.RowKit Go.Ar

theorem zero_c (xs : List Nat) (v : Value) (w : World) (hx : Dg xs) (hl : xs.length ≤ 100000) (hv : Rd w v 1 uE xs) :
    Calls Tryz.prog 84 #[v] w fun e w' => e = .returned (.bool (decide (val xs = 0))) ∧ Below w.heap.size w w' := by
  refine calls_exec (cf := cf) cfok (fn := Tryz.f84) Tryz.func84 rfl [.sl 0] [rdU xs] (ρ := fun _ => v) (· < w.heap.size) rfl rfl rfl (by simp [svOkL, svOk]) (memRd (fun _ h => h) ⟨hv, trivial⟩) ?_
  refine Or.inl ⟨.bool (decide (val xs < val [1])), fun ρ S w' hm => less_c xs [1] _ _ w' hx (fun x h => by rw [List.mem_singleton.1 h]; decide) hl (by decide) (hm.rd 0 rfl rfl) (hm.raw (enc := uE) 1 rfl rfl [1] [DV.v (.int .u32 1)] rfl rfl rfl (fun _ _ => rfl)), ?_⟩
  refine fun ρ S w' hi => ⟨?_, hi.below⟩
  show Ending.returned (.bool (decide (val xs < val [1]))) = _
  congr 2
  refine decide_eq_decide.2 ?_
  simp only [val]
  omega

structure Minus (xs ys : List Nat) where
  i : Nat
  hi : i ≤ xs.length
  out : List Nat
  c : Nat
  hl : out.length = i
  hd : Dg out
  hc : c < 2
  hv : val out + val ys % R ^ i = val xs % R ^ i + R ^ i * c
def Minus.start (xs ys : List Nat) : Minus xs ys := ⟨0, by omega, [], 0, rfl, Dg.nil, by omega, by simp [val, Nat.mod_one]⟩
def Minus.next {xs ys : List Nat} (hx : Dg xs) (hy : Dg ys) (s : Minus xs ys) (h : s.i < xs.length) (d c' : Nat) (hd : d < R) (hc' : c' < 2) (e : d + nth ys s.i + s.c = nth xs s.i + R * c') : Minus xs ys where
  i := s.i + 1
  hi := h
  out := s.out ++ [d]
  c := c'
  hl := by simp [s.hl]
  hd := s.hd.snoc hd
  hc := hc'
  hv := by
    have hv := s.hv
    rw [val_snoc, s.hl, pmod (val ys), pmod (val xs), ← nth_val hx, ← nth_val hy, Nat.pow_succ, Nat.mul_assoc]
    have e2 : R ^ s.i * (d + nth ys s.i + s.c) = R ^ s.i * (nth xs s.i + R * c') := by rw [e]
    simp only [Nat.mul_add] at e2
    omega
theorem Minus.all {xs ys : List Nat} (hx : Dg xs) (hle : val ys ≤ val xs) (s : Minus xs ys) (h : s.i = xs.length) : val s.out = val xs - val ys := by
  have hv := s.hv
  have hlt := val_lt hx
  have ho := val_lt s.hd
  rw [s.hl] at ho
  rw [h] at hv ho
  rw [Nat.mod_eq_of_lt hlt, Nat.mod_eq_of_lt (Nat.lt_of_le_of_lt hle hlt)] at hv
  have hc := s.hc
  have : s.c = 0 ∨ s.c = 1 := by omega
  rcases this with h0 | h0
  · rw [h0] at hv; omega
  · rw [h0] at hv; omega
theorem usub {a b : Nat} (h : b ≤ a) (ha : a < B) : IntKind.u32.wrap ((a : Int) - (b : Int)) = ((a - b : Nat) : Int) := by
  rw [show (a : Int) - (b : Int) = ((a - b : Nat) : Int) by omega]; exact u32i (by omega)

theorem minus_c (xs ys : List Nat) (u v : Value) (w : World) (hx : Dg xs) (hy : Dg ys) (hlx : xs.length ≤ 100000) (hle : val ys ≤ val xs) (hly : ys.length ≤ 100000) (hu : Rd w u 1 uE xs) (hv : Rd w v 1 uE ys) :
    Calls Tryz.prog 67 #[u, v] w fun e w' => ∃ z, e = .returned z ∧ Below w.heap.size w w' ∧ Fresh w w' z 77 1 uE (toL (val xs - val ys)) := by
  refine calls_exec (cf := cf) cfok (fn := Tryz.f67) Tryz.func67 rfl [.sl 0, .sl 1] [rdU xs, rdU ys] (ρ := fun i => if i = 0 then u else v) (· < w.heap.size) rfl rfl rfl (by simp [svOkL, svOk]) (memRd (fun _ h => h) ⟨hu, hv, trivial⟩) ?_
  refine ⟨Minus xs ys, fun s => ⟨44, [⟨0, [], .sl 0⟩, ⟨1, [], .sl 1⟩, ⟨5, [], .sl 2⟩, ⟨6, [], .v (.int .u32 s.c)⟩, ⟨7, [], .v (.int .i64 s.i)⟩], [rdU xs, rdU ys, owU s.out], [], dropL nats 3⟩, fun s => xs.length - s.i, ⟨[0, 1, 1000], Minus.start xs ys, ?_⟩, fun s => ?_⟩
  · exact And.intro (And.intro rfl (And.intro rfl (And.intro rfl (And.intro rfl (And.intro rfl trivial))))) (And.intro rfl (And.intro rfl (And.intro rfl trivial)))
  have hsi := s.hi
  have hso := s.hl
  have hsc := s.hc
  have hX := hx.nth s.i
  have hY := hy.nth s.i
  simp only [R] at hX hY
  have hB : B = 4294967296 := rfl
  refine And.intro (fun hlt => ?_) (fun hge => ?_)
  · have hlt : s.i < xs.length := by have : (s.i : Int) < (xs.length : Int) := of_decide_eq_true hlt
                                     omega
    have hfin : SV.v (.int .i64 (IntKind.i64.wrap ((s.i : Int) + 1))) = SV.v (.int .i64 ((s.i + 1 : Nat) : Int)) := svI (i64_succ s.i (by omega))
    refine And.intro (fun hy1 => ?_) (fun hy1 => ?_)
    · have hy1 : (s.i : Int) < (ys.length : Int) := of_decide_eq_true hy1
      have eY : IntKind.u32.wrap ((s.c : Int) + ((nth ys s.i : Nat) : Int)) = ((s.c + nth ys s.i : Nat) : Int) := usum (by omega)
      refine And.intro ⟨by omega, by omega⟩ ?_
      refine And.intro ⟨by omega, by omega⟩ ?_
      refine And.intro (fun hc1 => ?_) (fun hc1 => ?_)
      · have hc1 : ((nth xs s.i : Nat) : Int) < IntKind.u32.wrap ((s.c : Int) + ((nth ys s.i : Nat) : Int)) := of_decide_eq_true hc1
        rw [eY] at hc1
        have eD : IntKind.u32.wrap (IntKind.u32.wrap (((nth xs s.i : Nat) : Int) + 65536) - IntKind.u32.wrap ((s.c : Int) + ((nth ys s.i : Nat) : Int))) = ((nth xs s.i + 65536 - (s.c + nth ys s.i) : Nat) : Int) := by
          rw [eY, show IntKind.u32.wrap (((nth xs s.i : Nat) : Int) + 65536) = ((nth xs s.i + 65536 : Nat) : Int) from u32i (x := nth xs s.i + 65536) (by omega)]
          exact usub (by omega) (by omega)
        refine ⟨[nth xs s.i + 65536 - (s.c + nth ys s.i)], ⟨rfl, dvU eD, by simp⟩, by show (s.out.length + 1) * 4 ≤ _; omega, ?_⟩
        exact ⟨[0, 1, 4], s.next hx hy hlt (nth xs s.i + 65536 - (s.c + nth ys s.i)) 1 (by simp only [R]; omega) (by decide) (by simp only [R]; omega), And.intro (And.intro rfl (And.intro rfl (And.intro rfl (And.intro rfl (And.intro hfin trivial))))) (And.intro rfl (And.intro rfl (And.intro rfl trivial))), by show _ - (s.i + 1) < _ - s.i; omega⟩
      · have hc1 : ¬ ((nth xs s.i : Nat) : Int) < IntKind.u32.wrap ((s.c : Int) + ((nth ys s.i : Nat) : Int)) := of_decide_eq_false hc1
        rw [eY] at hc1
        have eD : IntKind.u32.wrap (((nth xs s.i : Nat) : Int) - IntKind.u32.wrap ((s.c : Int) + ((nth ys s.i : Nat) : Int))) = ((nth xs s.i - (s.c + nth ys s.i) : Nat) : Int) := by
          rw [eY]
          exact usub (by omega) (by omega)
        refine ⟨[nth xs s.i - (s.c + nth ys s.i)], ⟨rfl, dvU eD, by simp⟩, by show (s.out.length + 1) * 4 ≤ _; omega, ?_⟩
        exact ⟨[0, 1, 4], s.next hx hy hlt (nth xs s.i - (s.c + nth ys s.i)) 0 (by simp only [R]; omega) (by decide) (by simp only [R]; omega), And.intro (And.intro rfl (And.intro rfl (And.intro rfl (And.intro rfl (And.intro hfin trivial))))) (And.intro rfl (And.intro rfl (And.intro rfl trivial))), by show _ - (s.i + 1) < _ - s.i; omega⟩
    · have hy1 : ¬ (s.i : Int) < (ys.length : Int) := of_decide_eq_false hy1
      have zy := nth_out (xs := ys) (j := s.i) (by omega)
      have eY : (s.c : Int) = ((s.c + nth ys s.i : Nat) : Int) := by omega
      refine And.intro ⟨by omega, by omega⟩ ?_
      refine And.intro (fun hc1 => ?_) (fun hc1 => ?_)
      · have hc1 : ((nth xs s.i : Nat) : Int) < (s.c : Int) := of_decide_eq_true hc1
        rw [eY] at hc1
        have eD : IntKind.u32.wrap (IntKind.u32.wrap (((nth xs s.i : Nat) : Int) + 65536) - (s.c : Int)) = ((nth xs s.i + 65536 - (s.c + nth ys s.i) : Nat) : Int) := by
          rw [eY, show IntKind.u32.wrap (((nth xs s.i : Nat) : Int) + 65536) = ((nth xs s.i + 65536 : Nat) : Int) from u32i (x := nth xs s.i + 65536) (by omega)]
          exact usub (by omega) (by omega)
        refine ⟨[nth xs s.i + 65536 - (s.c + nth ys s.i)], ⟨rfl, dvU eD, by simp⟩, by show (s.out.length + 1) * 4 ≤ _; omega, ?_⟩
        exact ⟨[0, 1, 4], s.next hx hy hlt (nth xs s.i + 65536 - (s.c + nth ys s.i)) 1 (by simp only [R]; omega) (by decide) (by simp only [R]; omega), And.intro (And.intro rfl (And.intro rfl (And.intro rfl (And.intro rfl (And.intro hfin trivial))))) (And.intro rfl (And.intro rfl (And.intro rfl trivial))), by show _ - (s.i + 1) < _ - s.i; omega⟩
      · have hc1 : ¬ ((nth xs s.i : Nat) : Int) < (s.c : Int) := of_decide_eq_false hc1
        rw [eY] at hc1
        have eD : IntKind.u32.wrap (((nth xs s.i : Nat) : Int) - (s.c : Int)) = ((nth xs s.i - (s.c + nth ys s.i) : Nat) : Int) := by
          rw [eY]
          exact usub (by omega) (by omega)
        refine ⟨[nth xs s.i - (s.c + nth ys s.i)], ⟨rfl, dvU eD, by simp⟩, by show (s.out.length + 1) * 4 ≤ _; omega, ?_⟩
        exact ⟨[0, 1, 4], s.next hx hy hlt (nth xs s.i - (s.c + nth ys s.i)) 0 (by simp only [R]; omega) (by decide) (by simp only [R]; omega), And.intro (And.intro rfl (And.intro rfl (And.intro rfl (And.intro rfl (And.intro hfin trivial))))) (And.intro rfl (And.intro rfl (And.intro rfl trivial))), by show _ - (s.i + 1) < _ - s.i; omega⟩
  · have hge : s.i = xs.length := by have : ¬ (s.i : Int) < (xs.length : Int) := of_decide_eq_false hge
                                     omega
    have a1 := s.all hx hle hge
    have a2 := s.hd
    by_cases hn : s.out ≠ [] ∧ nth s.out (s.out.length - 1) = 0
    · refine Or.inr (lcall_sub [2] (trim_cut _ a2 (by omega) hn) rfl rfl rfl rfl rfl (And.intro rfl trivial) ?_)
      rw [a1]
      exact fun ρ S w' hi => ⟨_, rfl, hi.below, hi.fresh 3 uE_flat rfl rfl⟩
    · have hn : s.out ≠ [] → nth s.out (s.out.length - 1) ≠ 0 := fun h1 h2 => hn ⟨h1, h2⟩
      refine Or.inr (lcall_sub [2] (trim_id _ (by omega) hn) rfl rfl rfl rfl rfl (And.intro rfl trivial) ?_)
      refine fun ρ S w' hi => ⟨_, rfl, hi.below, ?_⟩
      rw [← a1, ← toL_of a2 hn]
      exact hi.fresh 2 uE_flat rfl rfl
end Go.Proofs.YtfjkajlkehjnnaaGreatDoor
