/- The law BreakNone: no way costs less, none that costs as much is ahead. -/
import Derived.Test.YtiaaiihdamkeaaaK13
set_option maxRecDepth 100000
set_option linter.unusedVariables false
namespace Go.Proofs.Ytiaaiihdamkeaaa
open Go Go.Eng Go.RowKit Go.Ar

theorem filt_way {must : List Bool} {n : Nat} {P : Nat → Bool} (hn : P n = true) (hP : ∀ q, nth must q = true → P q = true) : ∀ (m s last : Nat), s + m = n + 1 → last < s → (∀ q, last < q → q < s → P q = false) → (m = 0 → last = n) → WayOk must n last ((List.range' s m).filter P)
  | 0, s, last, h1, h2, h3, h4 => h4 rfl
  | m + 1, s, last, h1, h2, h3, h4 => by
    rw [List.range'_succ, List.filter_cons]
    by_cases e : P s = true
    · rw [if_pos e]
      refine ⟨h2, by omega, fun q a b => ?_, filt_way hn hP m (s + 1) s (by omega) (by omega) (fun q a b => absurd b (by omega)) (fun _ => by omega)⟩
      have := h3 q a b
      cases hq : nth must q with
      | false => rfl
      | true => rw [hP q hq] at this; cases this
    · rw [if_neg e]
      have hs : s ≠ n := fun h => e (by rw [h]; exact hn)
      exact filt_way hn hP m (s + 1) last (by omega) (by omega) (fun q a b => by
        by_cases eq : q = s
        · rw [eq]; simpa using e
        · exact h3 q a (by omega)) (fun h => absurd h (by omega))
def inL (must other : List Bool) (n i : Nat) : Bool := (decide (i = n) || nth must i) || (decide (i < other.length) && nth other i)
def rowL (must other : List Bool) (n i : Nat) : List Nat := (List.range' 1 (i - 1)).filter (inL must other n)
theorem rowL_succ (must other : List Bool) (n i : Nat) (h : 1 ≤ i) : rowL must other n (i + 1) = rowL must other n i ++ (if inL must other n i = true then [i] else []) := by
  unfold rowL
  rw [show i + 1 - 1 = i - 1 + 1 by omega, List.range'_concat, List.filter_append, List.filter_cons, List.filter_nil, show 1 + 1 * (i - 1) = i by omega]
theorem rowL_len (must other : List Bool) (n i : Nat) : (rowL must other n i).length ≤ i - 1 := by
  unfold rowL
  have := List.length_filter_le (inL must other n) (List.range' 1 (i - 1))
  rw [List.length_range'] at this
  exact this
theorem rowL_way (must other : List Bool) (n : Nat) (h : 1 ≤ n) : WayOk must n 0 (rowL must other n (n + 1)) := by
  unfold rowL
  refine filt_way ?_ (fun q hq => ?_) _ 1 0 (by omega) (by omega) (fun q a b => absurd b (by omega)) (fun h => by omega)
  · unfold inL; rw [decide_eq_true rfl]; rfl
  · unfold inL; rw [hq]; simp
abbrev owN (xs : List Nat) : Chunk := .own 3 Nat inferInstance 1 nE xs
theorem owNe {a b : List Nat} (h : a = b) : owN a = owN b := by rw [h]
theorem lawNone_c (must : List Bool) (lines : List Ln) (ws : List Int) (other : List Bool) (h0 : must.length ≤ 9223372036854775807) (h1 : lines.length ≤ 9223372036854775807) (h2 : ws.length ≤ 9223372036854775807) (h3 : other.length ≤ 9223372036854775807) (mv lv wv ov : Value) (w : World) (hm : Rd w mv 1 bE must) (hl : Rd w lv 3 lE lines) (hw : Rd w wv 1 iE ws) (ho : Rd w ov 1 bE other) :
    Calls Try.prog 3 #[mv, lv, wv, ov] w fun e w' => e = .returned (.bool true) ∧ Below w.heap.size w w' := by
  refine calls_exec (cf := cf) cfok (fn := Try.f3) Try.func3 rfl [.sl 0, .sl 1, .sl 2, .sl 3] [.rd Bool inferInstance 1 bE must, .rd Ln inferInstance 3 lE lines, .rd Int inferInstance 1 iE ws, .rd Bool inferInstance 1 bE other] (ρ := fun i => match i with | 0 => mv | 1 => lv | 2 => wv | _ => ov) (· < w.heap.size) rfl rfl rfl (by simp [svOkL, svOk]) (memRd (fun _ h => h) ⟨hm, hl, hw, ho, trivial⟩) ?_
  refine And.intro (fun h => ?_) (fun h => ?_)
  · refine Or.inl ⟨.bool true, fun ρ S w' _ => works_c w', ?_⟩
    exact fun ρ S w' hi => ⟨rfl, hi.below⟩
  have h : (((decide ((must.length : Int) > 41) || decide ((lines.length : Int) > 2000)) || decide ((ws.length : Int) > 2000)) || decide ((other.length : Int) > 100)) = false := h
  rw [Bool.or_eq_false_iff, Bool.or_eq_false_iff, Bool.or_eq_false_iff, decide_eq_false_iff_not, decide_eq_false_iff_not, decide_eq_false_iff_not, decide_eq_false_iff_not] at h
  by_cases hMay : May must lines ws
  · obtain ⟨hwok, hwt⟩ := may_way hMay
    have hmm := hMay.m
    refine Or.inr (lcall_reps (brkD (wayL hMay.par 0 0) (best hMay.par 0 0).2 0) (fun ρ S w hm => break_ok _ _ _ hMay _ _ _ w S hm.lt (hm.rdS 0 rfl rfl) (hm.rdS 1 rfl rfl) (hm.rdS 2 rfl rfl)) ?_)
    have hleast := way_least hMay.par (rowL must other (must.length - 1) must.length) 0 0 (by have := rowL_way must other (must.length - 1) (by omega); rw [show must.length - 1 + 1 = must.length by omega] at this; exact this) (Nat.zero_le _)
    generalize wayL hMay.par 0 0 = way at *
    generalize (best hMay.par 0 0).2 = sum at *
    refine And.intro (fun hh => by cases hh) (fun _ => ?_)
    refine Or.inl ⟨.tuple #[.int .i64 sum, .int .i64 0], fun ρ S w hm => by
      have := total_ok _ _ _ hMay _ hwok _ _ _ _ w (hm.rd 0 rfl rfl) (hm.rd 1 rfl rfl) (hm.rd 2 rfl rfl) (hm.rd 4 rfl rfl)
      rw [hwt] at this
      exact this, ?_⟩
    refine Or.inl ⟨.bool true, fun _ ρ S w hm => way_c must (must.length - 1) (by omega) (by omega) (by omega) way hwok _ _ w (hm.rd 0 rfl rfl) (hm.rd 4 rfl rfl), ?_⟩
    refine And.intro (fun hbad => ?_) (fun _ => ?_)
    · exfalso
      have hbad : ((!decide ((0 : Int) = 0) || !decide (sum = sum)) || !true) = true := hbad
      rw [decide_eq_true rfl, decide_eq_true rfl] at hbad
      cases hbad
    obtain ⟨N, hN⟩ : ∃ N, N = must.length - 1 := ⟨_, rfl⟩
    have en : IntKind.i64.wrap ((must.length : Int) - 1) = ((N : Nat) : Int) := by rw [i64_id _ (by omega) (by omega)]; omega
    rw [← hN] at hwok hleast
    rw [show must.length = N + 1 by omega] at hleast
    refine ⟨{ i : Nat // 1 ≤ i ∧ i ≤ N + 1 }, fun i => ⟨140, [⟨0, [], .sl 0⟩, ⟨1, [], .sl 1⟩, ⟨2, [], .sl 2⟩, ⟨3, [], .sl 3⟩, ⟨9, [], .sl 4⟩, ⟨10, [], .v (.int .i64 sum)⟩, ⟨12, [], .v (.int .i64 (N : Nat))⟩, ⟨15, [], .sl 5⟩, ⟨16, [], .v (.int .i64 (i.1 : Nat))⟩], [.rd Bool inferInstance 1 bE must, .rd Ln inferInstance 3 lE lines, .rd Int inferInstance 1 iE ws, .rd Bool inferInstance 1 bE other, .rd Nat inferInstance 1 nE way, owN (rowL must other N i.1)], [], dropL nats 6⟩, fun i => N + 1 - i.1, ⟨[0, 1, 2, 3, 4, 1000], ⟨1, by omega, by omega⟩, ?_⟩, fun i => ?_⟩
    · exact And.intro (And.intro rfl (And.intro rfl (And.intro rfl (And.intro rfl (And.intro rfl (And.intro rfl (And.intro (svI en) (And.intro rfl (And.intro rfl trivial))))))))) (And.intro rfl (And.intro rfl (And.intro rfl (And.intro rfl (And.intro rfl (And.intro rfl trivial))))))
    obtain ⟨i, hi1, hi2⟩ := i
    refine And.intro (fun hle => ?_) (fun hgt => ?_)
    · have hle : i ≤ N := by
        have : ((i : Nat) : Int) ≤ ((N : Nat) : Int) := of_decide_eq_true hle
        omega
      have hrs := rowL_succ must other N i hi1
      have hrl := rowL_len must other N i
      refine And.intro (fun _ => (show (0 : Int) ≤ (i : Int) ∧ (i : Int) < (must.length : Int) from ⟨by omega, by omega⟩)) ?_
      refine And.intro (fun hg _ => (show (0 : Int) ≤ (i : Int) ∧ (i : Int) < (other.length : Int) from ⟨by omega, of_decide_eq_true hg⟩)) ?_
      have hin : ∀ b, ((decide ((i : Int) = (N : Int)) || nth must i) || (decide ((i : Int) < (other.length : Int)) && nth other i)) = b → inL must other N i = b := fun b hb => by
        unfold inL
        rw [← hb, show decide (i = N) = decide ((i : Int) = (N : Int)) by rw [decide_eq_decide]; omega, show decide (i < other.length) = decide ((i : Int) < (other.length : Int)) by rw [decide_eq_decide]; omega]
      refine And.intro (fun hb => ?_) (fun hb => ?_)
      · rw [if_pos (hin true hb)] at hrs
        refine ⟨[i], ⟨rfl, rfl, by simp⟩, by show ((rowL must other N i).length + 1) * 8 ≤ _; omega, ?_⟩
        exact ⟨[0, 1, 2, 3, 4, 7], ⟨i + 1, by omega, by omega⟩, And.intro (And.intro rfl (And.intro rfl (And.intro rfl (And.intro rfl (And.intro rfl (And.intro rfl (And.intro rfl (And.intro rfl (And.intro (svI (i64_succ i (by omega))) trivial))))))))) (And.intro rfl (And.intro rfl (And.intro rfl (And.intro rfl (And.intro rfl (And.intro (owNe hrs.symm) trivial)))))), by show N + 1 - (i + 1) < N + 1 - i; omega⟩
      · have hb := hin false hb
        rw [hb, if_neg (by decide), List.append_nil] at hrs
        exact ⟨[0, 1, 2, 3, 4, 5], ⟨i + 1, by omega, by omega⟩, And.intro (And.intro rfl (And.intro rfl (And.intro rfl (And.intro rfl (And.intro rfl (And.intro rfl (And.intro rfl (And.intro rfl (And.intro (svI (i64_succ i (by omega))) trivial))))))))) (And.intro rfl (And.intro rfl (And.intro rfl (And.intro rfl (And.intro rfl (And.intro (owNe hrs.symm) trivial)))))), by show N + 1 - (i + 1) < N + 1 - i; omega⟩
    · have hgt : i = N + 1 := by
        have : ¬ ((i : Nat) : Int) ≤ ((N : Nat) : Int) := of_decide_eq_false hgt
        omega
      subst hgt
      have hrw := rowL_way must other N (by omega)
      have hrl := rowL_len must other N (N + 1)
      have hwl := way_len _ _ _ _ hwok
      generalize rowL must other N (N + 1) = l at *
      refine Or.inr (lcall_frzTo [(5, .rd Nat inferInstance 1 nE l)] ⟨rfl, rfl, ?_⟩)
      refine lcall_reps [.v (.int .i64 (totF hMay.par 0 0 l)), .v (.int .i64 0)] (fun ρ S w hm => (total_ok _ _ _ hMay l (by rw [← hN]; exact hrw) _ _ _ _ w (hm.rd 0 rfl rfl) (hm.rd 1 rfl rfl) (hm.rd 2 rfl rfl) (hm.rd 5 rfl rfl)).mono fun e w' hh => ⟨[_, _], hh.1, hh.2, rfl, rfl, trivial⟩) ?_
      generalize totF hMay.par 0 0 l = cost at *
      refine Or.inl ⟨.bool (aheadF l way), fun _ _ ρ S w hm => ahead_c l way _ _ w (by omega) (by omega) (hm.rd 5 rfl rfl) (hm.rd 4 rfl rfl), ?_⟩
      refine Or.inl ⟨.bool true, fun _ ρ S w' _ => works_c w', ?_⟩
      refine fun ρ S w' hi => ⟨retB ?_, hi.below⟩
      show ((((decide ((0 : Int) = 0) && decide (cost ≥ sum)) && (decide (cost > sum) || !aheadF l way)) && true)) = true
      rw [decide_eq_true rfl, decide_eq_true (show cost ≥ sum from hleast.1)]
      by_cases e : cost = sum
      · rw [hleast.2 e]; simp
      · rw [decide_eq_true (show cost > sum by have := hleast.1; omega)]; rfl
  · refine Or.inr (lcall_reps (brkD [] 0 2) (fun ρ S w hm => break_no _ _ _ hMay h0 h1 h2 _ _ _ w S hm.lt (hm.rdS 0 rfl rfl) (hm.rdS 1 rfl rfl) (hm.rdS 2 rfl rfl)) ?_)
    refine And.intro (fun _ => ?_) (fun hh => by cases hh)
    refine Or.inl ⟨.bool true, fun _ ρ S w' _ => works_c w', ?_⟩
    exact fun ρ S w' hi => ⟨rfl, hi.below⟩
end Go.Proofs.Ytiaaiihdamkeaaa
