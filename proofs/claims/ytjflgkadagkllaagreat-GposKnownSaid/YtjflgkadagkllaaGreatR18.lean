/- calamuskit.SameInts; the reference's numbers. -/
import Derived.Test.YtjflgkadagkllaaGreatR17
import Derived.Test.YtjflgkadagkllaaGreatR12
set_option maxRecDepth 100000
set_option linter.unusedVariables false
namespace Go.Proofs.YtjflgkadagkllaaGreat
open Go Go.Eng Go.RowKit
theorem samez_c (xs ys : List Int) (v u : Value) (w : World) (hl : xs.length <= 1099511627776) (hv : Rd w v 1 zE xs) (hu : Rd w u 1 zE ys) :
 Calls Tryz.prog 43 #[v, u] w fun e w' => e = .returned (.bool (decide (xs = ys))) /\ Below w.heap.size w w' := by
 refine calls_exec (cf := cf) cfok (fn := Tryz.f43) Tryz.func43 rfl [.sl 0, .sl 1] [.rd Int inferInstance 1 zE xs, .rd Int inferInstance 1 zE ys] (ρ := fun i => if i = 0 then v else u) (· < w.heap.size) rfl rfl rfl (by simp [svOkL, svOk]) (memRd (fun _ h => h) ⟨hv, hu, trivial⟩) ?_
 refine aI (fun h => ?_) (fun h => ?_)
 · have h : (!decide ((xs.length : Int) = (ys.length : Int))) = true := h
   rw [Bool.not_eq_true', decide_eq_false_iff_not] at h
   refine fun ρ S w' hi => ⟨?_, hi.below⟩
   have : ¬ xs = ys := fun e => h (by rw [e])
   rw [decide_eq_false this]; rfl
 have h : (!decide ((xs.length : Int) = (ys.length : Int))) = false := h
 rw [Bool.not_eq_false', decide_eq_true_iff] at h
 have h : xs.length = ys.length := by omega
 refine ⟨{ i : Nat // i <= xs.length /\ ∀ j, j < i -> nth xs j = nth ys j }, fun i => ⟨26, [⟨0, [], .sl 0⟩, ⟨1, [], .sl 1⟩, ⟨5, [], .v (.int .i64 i.1)⟩], [.rd Int inferInstance 1 zE xs, .rd Int inferInstance 1 zE ys], [], dropL nats 2⟩, fun i => xs.length - i.1, ⟨[0, 1], ⟨0, by omega, fun j hj => by omega⟩, ?_⟩, fun i => ?_⟩
 · exact aI (aI rfl (aI rfl (aI rfl trivial))) (aI rfl (aI rfl trivial))
 obtain ⟨i, hi, hall⟩ := i
 refine aI (fun hlt => ?_) (fun hge => ?_)
 · have hlt : i < xs.length := by have : (i : Int) < (xs.length : Int) := of_decide_eq_true hlt; omega
   refine Or.inl ⟨by kernel_rfl, ?_⟩
   refine aI (show (0 : Int) <= (i : Int) /\ (i : Int) < (xs.length : Int) from ⟨by omega, by omega⟩) ?_
   refine aI (show (0 : Int) <= (i : Int) /\ (i : Int) < (ys.length : Int) from ⟨by omega, by omega⟩) ?_
   refine aI (fun hb => ?_) (fun hb => ?_)
   · have hb : (!decide (nth xs i = nth ys i)) = true := hb
     rw [Bool.not_eq_true', decide_eq_false_iff_not] at hb
     refine fun ρ S w' hi' => ⟨?_, hi'.below⟩
     have : ¬ xs = ys := fun e => hb (by rw [e])
     rw [decide_eq_false this]; rfl
   · have hb : (!decide (nth xs i = nth ys i)) = false := hb
     rw [Bool.not_eq_false', decide_eq_true_iff] at hb
     refine ⟨[0, 1], ⟨i + 1, hlt, fun j hj => ?_⟩, aI (aI rfl (aI rfl (aI (svI (i64_succ i (by omega))) trivial))) (aI rfl (aI rfl trivial)), by show _ - (i + 1) < _ - i; omega⟩
     by_cases e : j = i
     · subst e; exact hb
     · exact hall j (by omega)
 · have hge : i = xs.length := by have : ¬ (i : Int) < (xs.length : Int) := of_decide_eq_false hge; omega
   refine fun ρ S w' hi' => ⟨?_, hi'.below⟩
   rw [decide_eq_true (nth_extI h (fun j hj => hall j (by omega)))]; rfl
def Byt (d : List Int) : Prop := ∀ i, 0 <= nth d i /\ nth d i <= 255
theorem Byt.of {d : List Int} (h : ∀ x ∈ d, 0 <= x /\ x <= 255) : Byt d := by
 intro i
 by_cases hi : i < d.length
 · rw [nthZ hi]; exact h _ (List.getElem_mem _)
 · unfold nth
   rw [List.getD_eq_getElem?_getD, List.getElem?_eq_none (by omega)]
   exact ⟨by decide, by decide⟩
theorem Byt.drop {d : List Int} (h : Byt d) (a : Nat) : Byt (d.drop a) := fun i => by rw [nth_drop]; exact h _
def w2 (d : List Int) (p : Nat) : Int := nth d p * 256 + nth d (p + 1)
theorem w2_range {d : List Int} (h : Byt d) (p : Nat) : 0 <= w2 d p /\ w2 d p <= 65535 := by
 have h1 := h p
 have h2 := h (p + 1)
 unfold w2
 omega
theorem wd_w2 {d : List Int} (h : Byt d) (p : Nat) : wd d p = w2 d p := by
 have h1 := h p
 have h2 := h (p + 1)
 rw [wd_val d p (nth d p).toNat (nth d (p + 1)).toNat (by omega) (by omega) (by omega) (by omega)]
 unfold w2
 omega
theorem wo_w2 {d : List Int} (h : Byt d) (p : Nat) : wo d p = w2 d p := by
 have h1 := h p
 have h2 := h (p + 1)
 rw [wo_val d p (nth d p).toNat (nth d (p + 1)).toNat (by omega) (by omega) (by omega) (by omega)]
 unfold w2
 omega
def wF (b : List Int) (at' : Int) : Int := if outR b at' 2 then 0 else w2 (b.drop at'.toNat) 0
theorem wF_range {b : List Int} (h : Byt b) (at' : Int) : 0 <= wF b at' /\ wF b at' <= 65535 := by
 unfold wF
 split
 · omega
 · exact w2_range (h.drop _) 0
theorem wF_at {b : List Int} {a : Int} {p : Nat} (h0 : 0 <= a) (h : a + p + 2 <= b.length) : wF b (a + p) = w2 (b.drop a.toNat) p := by
 unfold wF
 rw [if_neg (by rw [outR_iff.2 ⟨by omega, by omega, by omega⟩]; decide)]
 unfold w2
 simp only [nth_drop]
 rw [show (a + (p : Int)).toNat = a.toNat + p by omega]
 simp [Nat.add_assoc]
theorem allB_c (b : List Int) (at' n : Int) (hb : b.length <= 1099511627776) (ha : IntKind.i64.wrap at' = at') (v : Value) (w : World) (hv : Rd w v 1 bE b) :
 Calls Tryz.prog 73 #[v, .int .i64 at', .int .i64 n] w fun e w' => e = .returned (.bool (roomF b at' n)) /\ Below w.heap.size w w' := by
 have hmax : at' <= 9223372036854775807 := by rw [<- ha, IntKind.wrap_i64]; omega
 refine calls_exec (cf := cf) cfok (fn := Tryz.f73) Tryz.func73 rfl [.sl 0, .v (.int .i64 at'), .v (.int .i64 n)] [.rd Int inferInstance 1 bE b] (ρ := fun _ => v) (· < w.heap.size) rfl rfl rfl (by simp [svOkL, svOk]) (memRd (fun _ h => h) ⟨hv, trivial⟩) ?_
 refine fun ρ S w' hi => ⟨?_, hi.below⟩
 have e : (((decide (at' >= 0) && decide (n >= 0)) && decide (at' <= (b.length : Int))) && decide (n <= IntKind.i64.wrap ((b.length : Int) - at'))) = roomF b at' n := by
  rw [<- room_eq]
  unfold roomA
  by_cases h : at' >= 0
  · rw [i64_id ((b.length : Int) - at') (by omega) (by omega)]; rfl
  · rw [decide_eq_false h]; simp
 rw [<- e]
 rfl
theorem all_c (b : List Int) (at' n : Int) (hb : b.length <= 1099511627776) (ha : IntKind.i64.wrap at' = at') (v : Value) (w : World) (hv : Rd w v 1 bE b) :
 Calls Tryz.prog 71 #[v, .int .i64 at', .int .i64 n] w fun e w' => e = .returned (.bool (roomF b at' n)) /\ Below w.heap.size w w' := by
 refine calls_exec (cf := cf) cfok (fn := Tryz.f71) Tryz.func71 rfl [.sl 0, .v (.int .i64 at'), .v (.int .i64 n)] [.rd Int inferInstance 1 bE b] (ρ := fun _ => v) (· < w.heap.size) rfl rfl rfl (by simp [svOkL, svOk]) (memRd (fun _ h => h) ⟨hv, trivial⟩) ?_
 refine Or.inl ⟨_, fun ρ S w hm => allB_c b at' n hb ha _ w (hm.rd 0 rfl rfl), ?_⟩
 exact fun ρ S w' hi => ⟨rfl, hi.below⟩
theorem numB_c (b : List Int) (at' : Int) (hB : Byt b) (hb : b.length <= 1099511627776) (ha : IntKind.i64.wrap at' = at') (v : Value) (w : World) (hv : Rd w v 1 bE b) :
 Calls Tryz.prog 69 #[v, .int .i64 at', .int .i64 2] w fun e w' => e = .returned (.int .u32 (wF b at')) /\ Below w.heap.size w w' := by
 refine calls_exec (cf := cf) cfok (fn := Tryz.f69) Tryz.func69 rfl [.sl 0, .v (.int .i64 at'), .v (.int .i64 2)] [.rd Int inferInstance 1 bE b] (ρ := fun _ => v) (· < w.heap.size) rfl rfl rfl (by simp [svOkL, svOk]) (memRd (fun _ h => h) ⟨hv, trivial⟩) ?_
 refine Or.inl ⟨_, fun ρ S w hm => allB_c b at' 2 hb ha _ w (hm.rd 0 rfl rfl), ?_⟩
 refine aI (fun h => ?_) (fun h => ?_)
 · have h : (!roomF b at' 2) = true := h
   unfold roomF at h
   rw [Bool.not_not] at h
   rw [show wF b at' = 0 by unfold wF; rw [if_pos h]]
   exact fun ρ S w' hi => ⟨rfl, hi.below⟩
 have h : (!roomF b at' 2) = false := h
 unfold roomF at h
 rw [Bool.not_not] at h
 obtain ⟨h0, _, h2⟩ := outR_iff.1 h
 obtain ⟨a, rfl⟩ : ∃ a : Nat, at' = (a : Int) := ⟨at'.toNat, by omega⟩
 have hw : wF b (a : Int) = nth b a * 256 + nth b (a + 1) := by
  unfold wF
  rw [if_neg (by rw [h]; decide)]
  unfold w2
  simp only [nth_drop, Int.toNat_natCast]
  simp
 have hx := hB a
 have hy := hB (a + 1)
 rw [hw]
 refine ⟨{ i : Nat // i <= 2 }, fun i => ⟨30, [⟨0, [], .sl 0⟩, ⟨1, [], .v (.int .i64 (a : Nat))⟩, ⟨2, [], .v (.int .i64 2)⟩, ⟨7, [], .v (.int .u32 (if i.1 = 0 then 0 else if i.1 = 1 then nth b a else nth b a * 256 + nth b (a + 1)))⟩, ⟨8, [], .v (.int .i64 (i.1 : Nat))⟩], [.rd Int inferInstance 1 bE b], [], dropL nats 1⟩, fun i => 2 - i.1, ⟨[0], ⟨0, by omega⟩, ?_⟩, fun i => ?_⟩
 · exact aI (aI rfl (aI rfl (aI rfl (aI rfl (aI rfl trivial))))) (aI rfl trivial)
 obtain ⟨i, hi⟩ := i
 refine aI (fun hlt => ?_) (fun hge => ?_)
 · have hlt : i < 2 := by
    have : ((i : Nat) : Int) < 2 := of_decide_eq_true hlt
    omega
   have ei : IntKind.i64.wrap ((a : Int) + (i : Int)) = ((a + i : Nat) : Int) := by rw [i64_id _ (by omega) (by omega)]; omega
   refine aI ⟨(show (0 : Int) <= IntKind.i64.wrap ((a : Int) + (i : Int)) by rw [ei]; omega), (show IntKind.i64.wrap ((a : Int) + (i : Int)) < ((b.length : Nat) : Int) by rw [ei]; omega)⟩ ?_
   refine ⟨[0], ⟨i + 1, hlt⟩, aI (aI rfl (aI rfl (aI rfl (aI (svI ?_) (aI (svI (i64_succ i (by omega))) trivial))))) (aI rfl trivial), by show 2 - (i + 1) < 2 - i; omega⟩
   show IntKind.u32.wrap (IntKind.u32.wrap ((if i = 0 then 0 else if i = 1 then nth b a else nth b a * 256 + nth b (a + 1)) * 256) + IntKind.u32.wrap (nth b (IntKind.i64.wrap ((a : Int) + (i : Int))).toNat)) = (if i + 1 = 0 then 0 else if i + 1 = 1 then nth b a else nth b a * 256 + nth b (a + 1))
   rw [ei, Int.toNat_natCast]
   simp only [IntKind.wrap_u32]
   rcases (by omega : i = 0 \/ i = 1) with rfl | rfl
   · simp; omega
   · simp; omega
 · have hge : i = 2 := by
    have : ¬ ((i : Nat) : Int) < 2 := of_decide_eq_false hge
    omega
   subst hge
   exact fun ρ S w' hi => ⟨rfl, hi.below⟩
theorem w_c (b : List Int) (at' q : Int) (hq : q = at') (hB : Byt b) (hb : b.length <= 1099511627776) (ha : IntKind.i64.wrap at' = at') (v : Value) (w : World) (hv : Rd w v 1 bE b) :
 Calls Tryz.prog 70 #[v, .int .i64 q] w fun e w' => e = .returned (.int .i64 (wF b at')) /\ Below w.heap.size w w' := by
 subst hq
 refine calls_exec (cf := cf) cfok (fn := Tryz.f70) Tryz.func70 rfl [.sl 0, .v (.int .i64 q)] [.rd Int inferInstance 1 bE b] (ρ := fun _ => v) (· < w.heap.size) rfl rfl rfl (by simp [svOkL, svOk]) (memRd (fun _ h => h) ⟨hv, trivial⟩) ?_
 refine Or.inl ⟨_, fun ρ S w hm => numB_c b q hB hb ha _ w (hm.rd 0 rfl rfl), ?_⟩
 have h := wF_range hB q
 refine fun ρ S w' hi => ⟨?_, hi.below⟩
 show Ending.returned (.int .i64 (IntKind.i64.wrap (wF b q))) = _
 rw [i64_id _ (by omega) (by omega)]
end Go.Proofs.YtjflgkadagkllaaGreat
