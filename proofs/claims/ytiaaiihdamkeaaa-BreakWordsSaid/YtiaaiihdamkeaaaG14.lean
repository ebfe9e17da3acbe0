/- glue: right, cube, over, long, short, and their references. -/
import Derived.Test.YtiaaiihdamkeaaaG5
import Derived.Test.YtiaaiihdamkeaaaA4
namespace Go.Proofs.Ytiaaiihdamkeaaa
open Go Go.Eng Go.RowKit Go.Ar

theorem svI {k : IntKind} {a b : Int} (h : a = b) : SV.v (.int k a) = SV.v (.int k b) := by rw [h]
theorem okN_iff {n : Int} : okN n = true ↔ 0 ≤ n ∧ n ≤ 1099511627776 := by
  unfold okN
  rw [Bool.and_eq_true, decide_eq_true_iff, decide_eq_true_iff]
abbrev iE : Int → List DV := fun n => [.v (.int .i64 n)]
theorem iE_flat : FlatE iE := ⟨fun n => [.int .i64 n], fun _ => rfl⟩
theorem all_take {p : Int → Bool} {xs : List Int} {i : Nat} (h : (xs.take i).all p = true) (hi : i < xs.length) (hp : p (nth xs i) = true) : (xs.take (i + 1)).all p = true := by
  have e : xs.take (i + 1) = xs.take i ++ [nth xs i] := by
    rw [List.take_add_one]
    unfold nth
    rw [List.getD_eq_getElem?_getD, List.getElem?_eq_getElem hi]
    rfl
  rw [e, List.all_append, h]
  simp [hp]
theorem all_not {p : Int → Bool} {xs : List Int} {i : Nat} (hi : i < xs.length) (hp : p (nth xs i) = false) : xs.all p = false := by
  rw [List.all_eq_false]
  refine ⟨nth xs i, ?_, by rw [hp]; decide⟩
  unfold nth
  rw [List.getD_eq_getElem?_getD, List.getElem?_eq_getElem hi]
  exact List.getElem_mem hi
theorem right_c (xs : List Int) (v : Value) (w : World) (hl : xs.length ≤ 1000) (hv : Rd w v 1 iE xs) : Calls Try.prog 25 #[v] w fun e w' => e = .returned (.bool (xs.all okN)) ∧ Below w.heap.size w w' := by
  refine calls_exec (cf := cf) cfok (fn := Try.f25) Try.func25 rfl [.sl 0] [.rd Int inferInstance 1 iE xs] (ρ := fun _ => v) (· < w.heap.size) rfl rfl rfl (by simp [svOkL, svOk]) (memRd (fun _ h => h) ⟨hv, trivial⟩) ?_
  refine ⟨{ i : Nat // i ≤ xs.length ∧ (xs.take i).all okN = true }, fun i => ⟨18, [⟨5, [], .sl 0⟩, ⟨6, [], .v (.int .i64 xs.length)⟩, ⟨7, [], .v (.int .i64 i.1)⟩], [.rd Int inferInstance 1 iE xs], [], dropL nats 1⟩, fun i => xs.length - i.1, ⟨[0], ⟨0, by omega, rfl⟩, ?_⟩, fun i => ?_⟩
  · exact And.intro (And.intro rfl (And.intro rfl (And.intro rfl trivial))) (And.intro rfl trivial)
  obtain ⟨i, hi, ha⟩ := i
  refine And.intro (fun hlt => ?_) (fun hge => ?_)
  · have hlt : i < xs.length := by have : (i : Int) < (xs.length : Int) := of_decide_eq_true hlt
                                   omega
    refine And.intro (show (0 : Int) ≤ (i : Int) ∧ (i : Int) < (xs.length : Int) from ⟨by omega, by omega⟩) ?_
    refine And.intro (fun h => ?_) (fun h => ?_)
    · have h : (decide (nth xs i < 0) || decide (nth xs i > 1099511627776)) = true := h
      rw [all_not hlt (by
        rw [Bool.or_eq_true, decide_eq_true_iff, decide_eq_true_iff] at h
        cases hk : okN (nth xs i) with
        | false => rfl
        | true => rw [okN_iff] at hk; omega)]
      exact fun ρ S w' hi => ⟨rfl, hi.below⟩
    · have h : (decide (nth xs i < 0) || decide (nth xs i > 1099511627776)) = false := h
      have hk : okN (nth xs i) = true := by
        rw [Bool.or_eq_false_iff, decide_eq_false_iff_not, decide_eq_false_iff_not] at h
        rw [okN_iff]; omega
      exact ⟨[0], ⟨i + 1, hlt, all_take ha hlt hk⟩, And.intro (And.intro rfl (And.intro rfl (And.intro (svI (i64_succ i (by omega))) trivial))) (And.intro rfl trivial), by show _ - (i + 1) < _ - i; omega⟩
  · have hge : i = xs.length := by have : ¬ (i : Int) < (xs.length : Int) := of_decide_eq_false hge
                                   omega
    subst hge
    rw [List.take_length] at ha
    rw [ha]
    exact fun ρ S w' hi => ⟨rfl, hi.below⟩

theorem i64ok {n : Int} (h : 0 ≤ n ∧ n ≤ 1099511627776) : I64 n := ⟨by omega, by omega⟩
theorem q64 {d s : Int} (hd : 0 ≤ d) (hd2 : d ≤ 1099511627776) (hs : 0 < s) : d * 1024 / s ≤ 9223372036854775807 := by
  have h1 : d * 1024 / s ≤ d * 1024 := Int.ediv_le_self _ (by omega)
  omega
theorem cube_c (d s : Int) (w : World) (hd : 0 ≤ d ∧ d ≤ 1099511627776) (hs : 0 ≤ s ∧ s ≤ 1099511627776) : Calls Try.prog 29 #[.int .i64 d, .int .i64 s] w fun e w' => e = .returned (.int .i64 (if d = 0 then 0 else cubeF d s)) ∧ Below w.heap.size w w' := by
  refine calls_exec (cf := cf) cfok (fn := Try.f29) Try.func29 rfl [.v (.int .i64 d), .v (.int .i64 s)] [] (ρ := fun _ => undef) (· < w.heap.size) rfl rfl rfl (by simp [svOkL, svOk]) (memNil fun _ h => h) ?_
  refine And.intro (fun h => ?_) (fun h => ?_)
  · have h : d = 0 := of_decide_eq_true h
    rw [if_pos h]
    exact fun ρ S w' hi => ⟨rfl, hi.below⟩
  have h : ¬ d = 0 := of_decide_eq_false h
  rw [if_neg h]
  unfold cubeF
  refine And.intro (fun h2 => ?_) (fun h2 => ?_)
  · have h2 : s = 0 := of_decide_eq_true h2
    rw [if_pos h2]
    exact fun ρ S w' hi => ⟨rfl, hi.below⟩
  have h2 : ¬ s = 0 := of_decide_eq_false h2
  rw [if_neg h2]
  have hm := mulDiv_pos (a := d) (b := 1024) (c := s) hd.1 (by decide) (by omega) (q64 hd.1 hd.2 (by omega))
  refine Or.inl ⟨.tuple #[.int .i64 (d * 1024 / s), .int .i64 0], fun ρ S w' _ => by
    have h := mulDiv_c d 1024 s (i64ok hd) (by exact ⟨by decide, by decide⟩) (i64ok hs) w'
    rw [hm] at h
    exact h, ?_⟩
  refine And.intro (show (0 : Int) ≤ 30 by decide) ?_
  refine fun ρ S w' hi => ⟨ret1 ?_, hi.below⟩
  obtain ⟨q0, q1⟩ := q_range (d := d) (s := s) hd.1 (by omega)
  show min 10000 (shrV .i64 (IntKind.i64.wrap (IntKind.i64.wrap (IntKind.i64.wrap (100 * min (d * 1024 / s) 8192) * min (d * 1024 / s) 8192) * min (d * 1024 / s) 8192)) 30) = min 10000 (100 * min (d * 1024 / s) 8192 * min (d * 1024 / s) 8192 * min (d * 1024 / s) 8192 / 1073741824)
  generalize min (d * 1024 / s) 8192 = q at *
  obtain ⟨a1, a2, a3, a4, a5, a6⟩ := cube_bound q0 q1
  rw [i64_id (100 * q) (by omega) (by omega), i64_id (100 * q * q) (by omega) (by omega), i64_id (100 * q * q * q) (by omega) (by omega)]
  obtain ⟨n, hn⟩ := Int.eq_ofNat_of_zero_le a5
  rw [hn, show (30 : Int) = ((30 : Nat) : Int) from rfl, show ((n : Nat) : Int) = Int.ofNat n from rfl]
  rw [show Int.ofNat n = ((n : Nat) : Int) from rfl, shr_n (k := .i64) n (n := 30) (by decide)]
  rfl
end Go.Proofs.Ytiaaiihdamkeaaa
