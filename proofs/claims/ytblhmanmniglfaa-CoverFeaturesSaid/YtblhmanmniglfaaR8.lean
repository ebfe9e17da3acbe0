/- calamuskit.SameWords, SameBytes; putting numbers: two, PutCoverage, and the reference's. -/
import Derived.Test.YtblhmanmniglfaaR7
namespace Go.Proofs.Ytblhmanmniglfaa
open Go Go.Eng Go.RowKit

theorem samew_c (xs ys : List Int) (v u : Value) (w : World) (hl : xs.length ≤ 1099511627776) (hv : Rd w v 1 hE xs) (hu : Rd w u 1 hE ys) :
    Calls Try.prog 10 #[v, u] w fun e w' => e = .returned (.bool (decide (xs = ys))) ∧ Below w.heap.size w w' := by
  refine calls_exec (cf := cf) cfok (fn := Try.f10) Try.func10 rfl [.sl 0, .sl 1] [.rd Int inferInstance 1 hE xs, .rd Int inferInstance 1 hE ys] (ρ := fun i => if i = 0 then v else u) (· < w.heap.size) rfl rfl rfl (by simp [svOkL, svOk]) (memRd (fun _ h => h) ⟨hv, hu, trivial⟩) ?_
  refine And.intro (fun h => ?_) (fun h => ?_)
  · have h : (!decide ((xs.length : Int) = (ys.length : Int))) = true := h
    rw [Bool.not_eq_true', decide_eq_false_iff_not] at h
    refine fun ρ S w' hi => ⟨?_, hi.below⟩
    have : ¬ xs = ys := fun e => h (by rw [e])
    rw [decide_eq_false this]; rfl
  have h : (!decide ((xs.length : Int) = (ys.length : Int))) = false := h
  rw [Bool.not_eq_false', decide_eq_true_iff] at h
  have h : xs.length = ys.length := by omega
  refine ⟨{ i : Nat // i ≤ xs.length ∧ ∀ j, j < i → nth xs j = nth ys j }, fun i => ⟨26, [⟨0, [], .sl 0⟩, ⟨1, [], .sl 1⟩, ⟨5, [], .v (.int .i64 i.1)⟩], [.rd Int inferInstance 1 hE xs, .rd Int inferInstance 1 hE ys], [], dropL nats 2⟩, fun i => xs.length - i.1, ⟨[0, 1], ⟨0, by omega, fun j hj => by omega⟩, ?_⟩, fun i => ?_⟩
  · exact And.intro (And.intro rfl (And.intro rfl (And.intro rfl trivial))) (And.intro rfl (And.intro rfl trivial))
  obtain ⟨i, hi, hall⟩ := i
  refine And.intro (fun hlt => ?_) (fun hge => ?_)
  · have hlt : i < xs.length := by have : (i : Int) < (xs.length : Int) := of_decide_eq_true hlt
                                   omega
    refine Or.inl ⟨by kernel_rfl, ?_⟩
    refine And.intro (show (0 : Int) ≤ (i : Int) ∧ (i : Int) < (xs.length : Int) from ⟨by omega, by omega⟩) ?_
    refine And.intro (show (0 : Int) ≤ (i : Int) ∧ (i : Int) < (ys.length : Int) from ⟨by omega, by omega⟩) ?_
    refine And.intro (fun hb => ?_) (fun hb => ?_)
    · have hb : (!decide (nth xs i = nth ys i)) = true := hb
      rw [Bool.not_eq_true', decide_eq_false_iff_not] at hb
      refine fun ρ S w' hi' => ⟨?_, hi'.below⟩
      have : ¬ xs = ys := fun e => hb (by rw [e])
      rw [decide_eq_false this]; rfl
    · have hb : (!decide (nth xs i = nth ys i)) = false := hb
      rw [Bool.not_eq_false', decide_eq_true_iff] at hb
      refine ⟨[0, 1], ⟨i + 1, hlt, fun j hj => ?_⟩, And.intro (And.intro rfl (And.intro rfl (And.intro (svI (i64_succ i (by omega))) trivial))) (And.intro rfl (And.intro rfl trivial)), by show _ - (i + 1) < _ - i; omega⟩
      by_cases e : j = i
      · subst e; exact hb
      · exact hall j (by omega)
  · have hge : i = xs.length := by have : ¬ (i : Int) < (xs.length : Int) := of_decide_eq_false hge
                                   omega
    refine fun ρ S w' hi' => ⟨?_, hi'.below⟩
    rw [decide_eq_true (nth_extI h (fun j hj => hall j (by omega)))]; rfl

theorem sameb_c (xs : List Int) (v u : Value) (w : World) (hv : Rd w v 1 bE xs) (hu : Rd w u 1 bE xs) :
    Calls Try.prog 12 #[v, u] w fun e w' => e = .returned (.bool true) ∧ Below w.heap.size w w' := by
  refine calls_exec (cf := cf) cfok (fn := Try.f12) Try.func12 rfl [.sl 0, .sl 1] [.rd Int inferInstance 1 bE xs, .rd Int inferInstance 1 bE xs] (ρ := fun i => if i = 0 then v else u) (· < w.heap.size) rfl rfl rfl (by simp [svOkL, svOk]) (memRd (fun _ h => h) ⟨hv, hu, trivial⟩) ?_
  refine ⟨.string (strOfNums xs), pure_bytes ttok' xs rfl rfl rfl rfl rfl ⟨rfl, rfl, fun i _ => ⟨rfl, rfl⟩⟩, ?_⟩
  refine ⟨.string (strOfNums xs), pure_bytes ttok' xs rfl rfl rfl rfl rfl ⟨rfl, rfl, fun i _ => ⟨rfl, rfl⟩⟩, ?_⟩
  exact fun ρ S w' hi => ⟨by rw [show ((strOfNums xs).toList == (strOfNums xs).toList) = true from by simp]; rfl, hi.below⟩

/-- a number's two bytes -/
def tw (n : Int) : List Int := [IntKind.u8.wrap (shrV .i64 n 8), IntKind.u8.wrap n]
theorem two_s (xs : List Int) (n : Int) (hl : xs.length ≤ 1000000) : LCall Try.prog ⟨0, [], [.own 5 Int inferInstance 1 bE xs], [], []⟩ 25 [.sl 0, .v (.int .i64 n)]
    (fun st' s => st'.ch = [.dead, .own 5 Int inferInstance 1 bE (xs ++ tw n)] ∧ s = .sl 1) := by
  refine lcall_exec (cf := cf) cfok (fn := Try.f25) Try.func25 rfl _ _ [.dead, .own 5 Int inferInstance 1 bE (xs ++ tw n)] (.sl 1) rfl rfl (by simp [svOkL, svOk]) rfl ⟨trivial, trivial⟩ rfl rfl ?_
  refine And.intro (show (0 : Int) ≤ 8 by decide) ?_
  refine ⟨tw n, And.intro rfl (And.intro rfl (fun y hy => rfl)), by show (xs.length + 2) * 1 ≤ _; omega, ?_⟩
  exact ⟨[0, 2], rfl, rfl, rfl, And.intro trivial (And.intro rfl trivial), rfl⟩
theorem rtwo_c (n : Int) (w : World) : Calls Try.prog 26 #[.int .i64 n] w fun e w' => ∃ u, e = .returned u ∧ Below w.heap.size w w' ∧ Fresh w w' u 5 1 bE (tw n) := by
  refine calls_exec (cf := cf) cfok (fn := Try.f26) Try.func26 rfl [.v (.int .i64 n)] [] (ρ := fun _ => undef) (· < w.heap.size) rfl rfl rfl (by simp [svOkL, svOk]) (memNil fun _ h => h) ?_
  refine And.intro (show (0 : Int) ≤ 8 by decide) ?_
  exact fun ρ S w' hi => ⟨_, rfl, hi.below, hi.freshRaw 0 rfl rfl (fun n => [.int .u8 n]) (fun _ => rfl) (tw n) rfl rfl (fun y hy => rfl) (by decide) (fun y hy => rfl)⟩

/-! PutCoverage -/
def pcL (l : List Int) : Nat → List Int
  | 0 => [0, 1] ++ tw l.length
  | i + 1 => pcL l i ++ tw (IntKind.i64.wrap (nth l i))
theorem tw_len (n : Int) : (tw n).length = 2 := rfl
theorem pcL_len (l : List Int) : ∀ i, (pcL l i).length = 4 + 2 * i
  | 0 => rfl
  | i + 1 => by show (pcL l i ++ tw _).length = _; rw [List.length_append, pcL_len l i, tw_len]; omega
def upF (l : List Int) (i : Nat) : Bool := !(decide ((i : Int) > 0) && decide (nth l i ≤ nth l (i - 1)))
def putX (l : List Int) : Option (List Int) := if l.length < 1 ∨ l.length > 65535 then none else if ∀ i, i < l.length → upF l i = true then some (pcL l l.length) else none
def errO (o : Option (List Int)) (c : Int) : Int := match o with | some _ => 0 | none => c
/-- what is handed back: a row of bytes, or what is wrong -/
def OutB (o : Option (List Int)) (c : Int) (w : World) (e : Ending) (w' : World) : Prop :=
  ∃ u, e = .returned (.tuple #[u, .int .i64 (errO o c)]) ∧ Below w.heap.size w w' ∧ Fresh w w' u 5 1 bE (o.getD [])
def OutH (o : Option (List Int)) (c : Int) (w : World) (e : Ending) (w' : World) : Prop :=
  ∃ u, e = .returned (.tuple #[u, .int .i64 (errO o c)]) ∧ Below w.heap.size w w' ∧ Fresh w w' u 26 1 hE (o.getD [])
theorem CovR.out {b : List Int} {at' g : Int} {w w' : World} {e : Ending} (h : CovR b at' g w e w') : OutH (covX b at' g) 50 w e w' := by
  rcases h with ⟨h1, h2, h3⟩ | ⟨l, u, h1, h2, h3, h4⟩
  · rw [h1]; exact ⟨_, h2, h3, Fresh.nil _ _ _ _ _⟩
  · rw [h1]; exact ⟨u, h2, h3, h4⟩
theorem ClsR.out {b : List Int} {at' g : Int} {w w' : World} {e : Ending} (h : ClsR b at' g w e w') : OutB (clsX b at' g) 50 w e w' := by
  rcases h with ⟨h1, h2, h3⟩ | ⟨l, u, h1, h2, h3, h4⟩
  · rw [h1]; exact ⟨_, h2, h3, Fresh.nil _ _ _ _ _⟩
  · rw [h1]; exact ⟨u, h2, h3, h4⟩

theorem put_c (l : List Int) (v : Value) (w : World) (hv : Rd w v 1 hE l) : Calls Try.prog 13 #[v] w (OutB (putX l) 2 w) := by
  refine calls_exec (cf := cf) cfok (fn := Try.f13) Try.func13 rfl [.sl 0] [.rd Int inferInstance 1 hE l] (ρ := fun _ => v) (· < w.heap.size) rfl rfl rfl (by simp [svOkL, svOk]) (memRd (fun _ h => h) ⟨hv, trivial⟩) ?_
  have hr0 : ∀ x : Bool, (decide ((l.length : Int) < 1) || decide ((l.length : Int) > 65535)) = x → ((l.length < 1 ∨ l.length > 65535) ↔ x = true) := fun x h => by
    subst h
    rw [Bool.or_eq_true, decide_eq_true_iff, decide_eq_true_iff]
    omega
  refine And.intro (fun h => ?_) (fun h => ?_)
  · have e : putX l = none := by unfold putX; rw [if_pos ((hr0 true h).2 rfl)]
    rw [e]
    exact fun ρ S w' hi => ⟨_, rfl, hi.below, Fresh.nil _ _ _ _ _⟩
  have h : ¬ (l.length < 1 ∨ l.length > 65535) := fun h' => Bool.noConfusion ((hr0 false h).1 h')
  have hc : putX l = if ∀ i, i < l.length → upF l i = true then some (pcL l l.length) else none := by unfold putX; rw [if_neg h]
  refine Or.inr (lcall_sub [1] (two_s [0, 1] l.length (by decide)) rfl rfl rfl rfl rfl ⟨⟨rfl, rfl, rfl, rfl, fun y hy => rfl⟩, trivial⟩ ?_)
  refine ⟨{ i : Nat // i ≤ l.length ∧ ∀ j, j < i → upF l j = true }, fun i => ⟨43, [⟨0, [], .sl 0⟩, ⟨4, [], .sl 1⟩, ⟨19, [], .sl 0⟩, ⟨20, [], .v (.int .i64 l.length)⟩, ⟨21, [], .v (.int .i64 (i.1 : Int))⟩], [.rd Int inferInstance 1 hE l, .own 5 Int inferInstance 1 bE (pcL l i.1)], [], dropL nats 2⟩,
    fun i => l.length - i.1, ⟨[0, 2], ⟨0, Nat.zero_le _, fun j hj => absurd hj (Nat.not_lt_zero _)⟩, ?_⟩, fun i => ?_⟩
  · exact And.intro (And.intro rfl (And.intro rfl (And.intro rfl (And.intro rfl (And.intro rfl trivial))))) (And.intro rfl (And.intro rfl trivial))
  obtain ⟨i, hi, hall⟩ := i
  refine And.intro (fun hlt => ?_) (fun hge => ?_)
  · have hlt : i < l.length := by have : (i : Int) < (l.length : Int) := of_decide_eq_true hlt
                                  omega
    refine And.intro (show (0 : Int) ≤ (i : Int) ∧ (i : Int) < (l.length : Int) from ⟨by omega, by omega⟩) ?_
    have hp : (0 : Int) < i → IntKind.i64.wrap ((i : Int) - 1) = (i : Int) - 1 := fun h => i64_id _ (by omega) (by omega)
    refine And.intro (fun g1 => ?_) ?_
    · have g1 : (i : Int) > 0 := of_decide_eq_true g1
      refine (show (0 : Int) ≤ IntKind.i64.wrap ((i : Int) - 1) ∧ IntKind.i64.wrap ((i : Int) - 1) < (l.length : Int) from ?_)
      rw [hp g1]; omega
    have hx : ∀ x : Bool, (decide ((i : Int) > 0) && decide (nth l (i : Int).toNat ≤ nth l (IntKind.i64.wrap ((i : Int) - 1)).toNat)) = x → upF l i = !x := fun x hx => by
      subst hx
      unfold upF
      rw [Int.toNat_natCast]
      by_cases hz : (i : Int) > 0
      · rw [hp hz, show ((i : Int) - 1).toNat = i - 1 from by omega]
      · rw [decide_eq_false hz]; rfl
    refine And.intro (fun hb2 => ?_) (fun hb2 => ?_)
    · have e : putX l = none := by rw [hc, if_neg (fun ha => by have := ha i hlt; rw [hx true hb2] at this; cases this)]
      rw [e]
      exact fun ρ S w' hi => ⟨_, rfl, hi.below, Fresh.nil _ _ _ _ _⟩
    · refine Or.inr (lcall_sub [1] (two_s (pcL l i) (IntKind.i64.wrap (nth l i)) (by rw [pcL_len]; omega)) rfl rfl rfl rfl rfl ⟨rfl, trivial⟩ ?_)
      exact ⟨[0, 2], ⟨i + 1, hlt, fun j hj => by
          by_cases e : j = i
          · subst e; exact hx false hb2
          · exact hall j (by omega)⟩, And.intro (And.intro rfl (And.intro rfl (And.intro rfl (And.intro rfl (And.intro (svI (i64_succ i (by omega))) trivial))))) (And.intro rfl (And.intro rfl trivial)), by show _ - (i + 1) < _ - i; omega⟩
  · have hge : i = l.length := by have : ¬ (i : Int) < (l.length : Int) := of_decide_eq_false hge
                                  omega
    subst hge
    rw [if_pos hall] at hc
    rw [hc]
    exact fun ρ S w' hi => ⟨_, rfl, hi.below, hi.fresh 1 flatB rfl rfl⟩

theorem rput_c (l : List Int) (v : Value) (w : World) (hv : Rd w v 1 hE l) : Calls Try.prog 14 #[v] w (OutB (putX l) 2 w) := by
  refine calls_exec (cf := cf) cfok (fn := Try.f14) Try.func14 rfl [.sl 0] [.rd Int inferInstance 1 hE l] (ρ := fun _ => v) (· < w.heap.size) rfl rfl rfl (by simp [svOkL, svOk]) (memRd (fun _ h => h) ⟨hv, trivial⟩) ?_
  have hr0 : ∀ x : Bool, (decide ((l.length : Int) < 1) || decide ((l.length : Int) > 65535)) = x → ((l.length < 1 ∨ l.length > 65535) ↔ x = true) := fun x h => by
    subst h
    rw [Bool.or_eq_true, decide_eq_true_iff, decide_eq_true_iff]
    omega
  refine And.intro (fun h => ?_) (fun h => ?_)
  · have e : putX l = none := by unfold putX; rw [if_pos ((hr0 true h).2 rfl)]
    rw [e]
    exact fun ρ S w' hi => ⟨_, rfl, hi.below, Fresh.nil _ _ _ _ _⟩
  have h : ¬ (l.length < 1 ∨ l.length > 65535) := fun h' => Bool.noConfusion ((hr0 false h).1 h')
  have hc : putX l = if ∀ i, i < l.length → upF l i = true then some (pcL l l.length) else none := by unfold putX; rw [if_neg h]
  refine Or.inr (lcall_fresh (tw l.length) (fun ρ S w hm => rtwo_c _ w) ?_)
  refine ⟨Int, inferInstance, bE, [0, 1], tw l.length, And.intro rfl (And.intro rfl (fun y hy => rfl)), ⟨rfl, rfl, fun i _ => ⟨rfl, rfl⟩⟩, by show (2 + 2) * 1 ≤ _; decide, ?_⟩
  refine ⟨{ i : Nat // i ≤ l.length ∧ ∀ j, j < i → upF l j = true }, fun i => ⟨48, [⟨0, [], .sl 0⟩, ⟨4, [], .sl 1⟩, ⟨5, [], .v (.int .i64 (i.1 : Int))⟩], [.rd Int inferInstance 1 hE l, .own 5 Int inferInstance 1 bE (pcL l i.1)], [], dropL nats 2⟩,
    fun i => l.length - i.1, ⟨[0, 3], ⟨0, Nat.zero_le _, fun j hj => absurd hj (Nat.not_lt_zero _)⟩, ?_⟩, fun i => ?_⟩
  · exact And.intro (And.intro rfl (And.intro rfl (And.intro rfl trivial))) (And.intro rfl (And.intro rfl trivial))
  obtain ⟨i, hi, hall⟩ := i
  refine And.intro (fun hlt => ?_) (fun hge => ?_)
  · have hlt : i < l.length := by have : (i : Int) < (l.length : Int) := of_decide_eq_true hlt
                                  omega
    have hp : (0 : Int) < i → IntKind.i64.wrap ((i : Int) - 1) = (i : Int) - 1 := fun h => i64_id _ (by omega) (by omega)
    refine Or.inl ⟨by kernel_rfl, ?_⟩
    refine And.intro (fun _ => (show (0 : Int) ≤ (i : Int) ∧ (i : Int) < (l.length : Int) from ⟨by omega, by omega⟩)) ?_
    refine And.intro (fun g1 => ?_) ?_
    · have g1 : (i : Int) > 0 := of_decide_eq_true g1
      refine (show (0 : Int) ≤ IntKind.i64.wrap ((i : Int) - 1) ∧ IntKind.i64.wrap ((i : Int) - 1) < (l.length : Int) from ?_)
      rw [hp g1]; omega
    have hx : ∀ x : Bool, (decide ((i : Int) > 0) && decide (nth l (i : Int).toNat ≤ nth l (IntKind.i64.wrap ((i : Int) - 1)).toNat)) = x → upF l i = !x := fun x hx => by
      subst hx
      unfold upF
      rw [Int.toNat_natCast]
      by_cases hz : (i : Int) > 0
      · rw [hp hz, show ((i : Int) - 1).toNat = i - 1 from by omega]
      · rw [decide_eq_false hz]; rfl
    refine And.intro (fun hb2 => ?_) (fun hb2 => ?_)
    · have e : putX l = none := by rw [hc, if_neg (fun ha => by have := ha i hlt; rw [hx true hb2] at this; cases this)]
      rw [e]
      exact fun ρ S w' hi => ⟨_, rfl, hi.below, Fresh.nil _ _ _ _ _⟩
    · refine And.intro (show (0 : Int) ≤ (i : Int) ∧ (i : Int) < (l.length : Int) from ⟨by omega, by omega⟩) ?_
      refine Or.inr (lcall_fresh (tw (IntKind.i64.wrap (nth l i))) (fun ρ S w hm => rtwo_c _ w) ?_)
      refine ⟨tw (IntKind.i64.wrap (nth l i)), ⟨rfl, rfl, fun i _ => ⟨rfl, rfl⟩⟩, by show ((pcL l i).length + 2) * 1 ≤ _; rw [pcL_len]; omega, ?_⟩
      exact ⟨[0, 3], ⟨i + 1, hlt, fun j hj => by
          by_cases e : j = i
          · subst e; exact hx false hb2
          · exact hall j (by omega)⟩, And.intro (And.intro rfl (And.intro rfl (And.intro (svI (i64_succ i (by omega))) trivial))) (And.intro rfl (And.intro rfl trivial)), by show _ - (i + 1) < _ - i; omega⟩
  · have hge : i = l.length := by have : ¬ (i : Int) < (l.length : Int) := of_decide_eq_false hge
                                  omega
    subst hge
    rw [if_pos hall] at hc
    rw [hc]
    exact fun ρ S w' hi => ⟨_, rfl, hi.below, hi.fresh 1 flatB rfl rfl⟩
end Go.Proofs.Ytblhmanmniglfaa
