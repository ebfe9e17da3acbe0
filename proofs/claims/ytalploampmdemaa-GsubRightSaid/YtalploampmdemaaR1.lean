/- bin.Reader, whose bytes are there: its methods, over [itself], which is only read. -/
import Derived.Test.YtalploampmdemaaCfg
namespace Go.Proofs.Ytalploampmdemaa
open Go Go.Eng Go.RowKit

abbrev bE : Int → List DV := fun n => [.v (.int .u8 n)]
abbrev rdD (b : List Int) : List DV := [.ptr [.v (.bool false)], .sl Int inferInstance 1 bE b]
/-- a reader of bytes, not spoiled -/
def Rdr (w : World) (v : Value) (b : List Int) : Prop := DRep (· < w.heap.size) w (.ptr (rdD b)) v
theorem Rdr.val {w : World} {v : Value} {b : List Int} (h : Rdr w v b) : ∃ k o, v = .pointer (some ⟨k, o, none⟩) := by
  unfold Rdr at h; cases h; exact ⟨_, _, rfl⟩
theorem ptr30 : Try.prog.underlying 29 = some (.pointer (Try.prog.pointee 29)) := by kernel_rfl

theorem bad_c (b : List Int) (v : Value) (w : World) (hv : Rdr w v b) : Calls Try.prog 19 #[v] w fun e w' => e = .returned (.bool false) ∧ Below w.heap.size w w' := by
  obtain ⟨k, o, rfl⟩ := hv.val
  refine calls_exec (cf := cf) cfok (fn := Try.f19) Try.func19 rfl [.bx 0 0] [.rp [] (rdD b)] (ρ := fun _ => .pointer (some ⟨k, o, none⟩)) (· < w.heap.size) rfl rfl rfl (by simp [svOkL, svOk]) (memRd (fun _ h => h) ⟨hv, trivial⟩) ?_
  refine ⟨.bool false, pure_ptrNil (op := .eql) (.inl rfl) ptr30 rfl rfl rfl, ?_⟩
  exact fun ρ S w' hi => ⟨rfl, hi.below⟩
theorem len_c (b : List Int) (v : Value) (w : World) (hv : Rdr w v b) : Calls Try.prog 20 #[v] w fun e w' => e = .returned (.int .i64 b.length) ∧ Below w.heap.size w w' := by
  obtain ⟨k, o, rfl⟩ := hv.val
  refine calls_exec (cf := cf) cfok (fn := Try.f20) Try.func20 rfl [.bx 0 0] [.rp [] (rdD b)] (ρ := fun _ => .pointer (some ⟨k, o, none⟩)) (· < w.heap.size) rfl rfl rfl (by simp [svOkL, svOk]) (memRd (fun _ h => h) ⟨hv, trivial⟩) ?_
  refine ⟨.bool false, pure_ptrNil (op := .eql) (.inl rfl) ptr30 rfl rfl rfl, ?_⟩
  refine And.intro (fun h => by cases h) (fun _ => ?_)
  exact fun ρ S w' hi => ⟨rfl, hi.below⟩

/-- is it not there? -/
def outR (b : List Int) (at' n : Int) : Bool := ((decide (at' < 0) || decide (n < 0)) || decide (at' > (b.length : Int))) || decide (n > (b.length : Int) - at')
theorem outR_iff {b : List Int} {at' n : Int} : outR b at' n = false ↔ (0 ≤ at' ∧ 0 ≤ n ∧ at' + n ≤ (b.length : Int)) := by
  unfold outR
  rw [Bool.or_eq_false_iff, Bool.or_eq_false_iff, Bool.or_eq_false_iff, decide_eq_false_iff_not, decide_eq_false_iff_not, decide_eq_false_iff_not, decide_eq_false_iff_not]
  omega
theorem outW {b : List Int} {at' n : Int} (hb : b.length ≤ 1099511627776) (ha : IntKind.i64.wrap at' = at') :
    (((decide (at' < 0) || decide (n < 0)) || decide (at' > (b.length : Int))) || decide (n > IntKind.i64.wrap ((b.length : Int) - at'))) = outR b at' n := by
  unfold outR
  by_cases h : at' < 0
  · rw [decide_eq_true h]; simp
  · have h2 : IntKind.i64.wrap ((b.length : Int) - at') = (b.length : Int) - at' := by
      have : at' ≤ 9223372036854775807 := by rw [← ha, IntKind.wrap_i64]; omega
      exact i64_id _ (by omega) (by omega)
    rw [h2]

theorem row_s (b : List Int) (at' n : Int) (hb : b.length ≤ 1099511627776) (ho : outR b at' n = false) : LCall Try.prog ⟨0, [], [.rp [] (rdD b)], [], []⟩ 55 [.bx 0 0, .v (.int .i64 at'), .v (.int .i64 n)]
    (fun st' s => st'.ch = [.rp [] (rdD b), .rd Int inferInstance 1 bE (midL b at'.toNat (at' + n).toNat)] ∧ s = .tup [.sl 1, .v (.bool true)]) := by
  obtain ⟨h1, h2, h3⟩ := outR_iff.1 ho
  have ha : IntKind.i64.wrap at' = at' := i64_id _ (by omega) (by omega)
  have hn : IntKind.i64.wrap (at' + n) = at' + n := i64_id _ (by omega) (by omega)
  refine lcall_exec (cf := cf) cfok (fn := Try.f55) Try.func55 rfl _ _ [.rp [] (rdD b), .rd Int inferInstance 1 bE (midL b at'.toNat (at' + n).toNat)] (.tup [.sl 1, .v (.bool true)]) rfl rfl (by simp [svOkL, svOk]) rfl ⟨trivial, trivial⟩ rfl rfl ?_
  refine ⟨.bool false, pure_ptrNil (op := .eql) (.inl rfl) ptr30 rfl rfl rfl, ?_⟩
  refine And.intro (fun h => by cases h) (fun _ => ?_)
  refine And.intro (fun h => ?_) (fun _ => ?_)
  · have h : (((decide (at' < 0) || decide (n < 0)) || decide (at' > (b.length : Int))) || decide (n > IntKind.i64.wrap ((b.length : Int) - at'))) = true := h
    rw [outW hb ha, ho] at h
    cases h
  refine And.intro ⟨by omega, by rw [hn]; omega, by rw [hn]; omega⟩ ?_
  exact ⟨[0, 4], rfl, rfl, rfl, And.intro ⟨rfl, rfl⟩ (And.intro (by rw [hn]; rfl) trivial), rfl⟩

def numS (v x : Int) : Int := bitsV .or .u32 (shlV .u32 v 8) (IntKind.u32.wrap x)
def numL (xs : List Int) : Int := xs.foldl numS 0
theorem numL_succ (xs : List Int) (i : Nat) (h : i < xs.length) : numL (xs.take (i + 1)) = numS (numL (xs.take i)) (nth xs i) := by
  unfold numL
  have e : xs.take (i + 1) = xs.take i ++ [nth xs i] := by
    rw [List.take_add_one]
    unfold nth
    rw [List.getD_eq_getElem?_getD, List.getElem?_eq_getElem h]
    rfl
  rw [e, List.foldl_append]
  rfl
theorem svI {k : IntKind} {a b : Int} (h : a = b) : SV.v (.int k a) = SV.v (.int k b) := by rw [h]
/-- a number of n bytes there -/
def numR (b : List Int) (at' n : Int) : Int := numL (midL b at'.toNat (at' + n).toNat)

theorem number_c (b : List Int) (at' n : Int) (hb : b.length ≤ 1099511627776) (ho : outR b at' n = false) (v : Value) (w : World) (hv : Rdr w v b) :
    Calls Try.prog 35 #[v, .int .i64 at', .int .i64 n] w fun e w' => e = .returned (.int .u32 (numR b at' n)) ∧ Below w.heap.size w w' := by
  obtain ⟨k, o, rfl⟩ := hv.val
  unfold numR
  obtain ⟨h1, h2, h3⟩ := outR_iff.1 ho
  refine calls_exec (cf := cf) cfok (fn := Try.f35) Try.func35 rfl [.bx 0 0, .v (.int .i64 at'), .v (.int .i64 n)] [.rp [] (rdD b)] (ρ := fun _ => .pointer (some ⟨k, o, none⟩)) (· < w.heap.size) rfl rfl rfl (by simp [svOkL, svOk]) (memRd (fun _ h => h) ⟨hv, trivial⟩) ?_
  refine Or.inr (lcall_sub [0] (row_s b at' n hb ho) rfl rfl rfl rfl rfl ⟨⟨rfl, rfl⟩, trivial⟩ ?_)
  have hxl : (midL b at'.toNat (at' + n).toNat).length ≤ b.length := by unfold midL; simp; omega
  generalize midL b at'.toNat (at' + n).toNat = xs at *
  refine ⟨{ i : Nat // i ≤ xs.length }, fun i => ⟨32, [⟨7, [], .v (.int .u32 (numL (xs.take i.1)))⟩, ⟨19, [], .sl 1⟩, ⟨20, [], .v (.int .i64 xs.length)⟩, ⟨21, [], .v (.int .i64 i.1)⟩], [.rp [] (rdD b), .rd Int inferInstance 1 bE xs], [], dropL nats 2⟩, fun i => xs.length - i.1, ⟨[0, 1], ⟨0, by omega⟩, ?_⟩, fun i => ?_⟩
  · exact And.intro (And.intro rfl (And.intro rfl (And.intro rfl (And.intro rfl trivial)))) (And.intro ⟨rfl, rfl⟩ (And.intro rfl trivial))
  obtain ⟨i, hi⟩ := i
  refine And.intro (fun hlt => ?_) (fun hge => ?_)
  · have hlt : i < xs.length := by have : (i : Int) < (xs.length : Int) := of_decide_eq_true hlt
                                   omega
    refine And.intro (show (0 : Int) ≤ (i : Int) ∧ (i : Int) < (xs.length : Int) from ⟨by omega, by omega⟩) ?_
    refine And.intro (show (0 : Int) ≤ 8 by decide) ?_
    exact ⟨[0, 1], ⟨i + 1, hlt⟩, And.intro (And.intro (svI (numL_succ xs i hlt).symm) (And.intro rfl (And.intro rfl (And.intro (svI (i64_succ i (by omega))) trivial)))) (And.intro ⟨rfl, rfl⟩ (And.intro rfl trivial)), by show _ - (i + 1) < _ - i; omega⟩
  · have hge : i = xs.length := by have : ¬ (i : Int) < (xs.length : Int) := of_decide_eq_false hge
                                   omega
    subst hge
    exact fun ρ S w' hi => ⟨by rw [List.take_length]; rfl, hi.below⟩
theorem word_c (b : List Int) (at' : Int) (hb : b.length ≤ 1099511627776) (ho : outR b at' 2 = false) (v : Value) (w : World) (hv : Rdr w v b) :
    Calls Try.prog 21 #[v, .int .i64 at'] w fun e w' => e = .returned (.int .u16 (IntKind.u16.wrap (numR b at' 2))) ∧ Below w.heap.size w w' := by
  obtain ⟨k, o, rfl⟩ := hv.val
  refine calls_exec (cf := cf) cfok (fn := Try.f21) Try.func21 rfl [.bx 0 0, .v (.int .i64 at')] [.rp [] (rdD b)] (ρ := fun _ => .pointer (some ⟨k, o, none⟩)) (· < w.heap.size) rfl rfl rfl (by simp [svOkL, svOk]) (memRd (fun _ h => h) ⟨hv, trivial⟩) ?_
  refine Or.inl ⟨_, fun ρ S w hm => number_c b at' 2 hb ho _ w (hm.rp 0 rfl rfl), ?_⟩
  exact fun ρ S w' hi => ⟨rfl, hi.below⟩
theorem byte_c (b : List Int) (at' : Int) (hb : b.length ≤ 1099511627776) (ho : outR b at' 1 = false) (v : Value) (w : World) (hv : Rdr w v b) :
    Calls Try.prog 38 #[v, .int .i64 at'] w fun e w' => e = .returned (.int .u8 (IntKind.u8.wrap (numR b at' 1))) ∧ Below w.heap.size w w' := by
  obtain ⟨k, o, rfl⟩ := hv.val
  refine calls_exec (cf := cf) cfok (fn := Try.f38) Try.func38 rfl [.bx 0 0, .v (.int .i64 at')] [.rp [] (rdD b)] (ρ := fun _ => .pointer (some ⟨k, o, none⟩)) (· < w.heap.size) rfl rfl rfl (by simp [svOkL, svOk]) (memRd (fun _ h => h) ⟨hv, trivial⟩) ?_
  refine Or.inl ⟨_, fun ρ S w hm => number_c b at' 1 hb ho _ w (hm.rp 0 rfl rfl), ?_⟩
  exact fun ρ S w' hi => ⟨rfl, hi.below⟩

/-- are so many bytes there? -/
def roomF (b : List Int) (at' n : Int) : Bool := !outR b at' n
def roomA (at' n : Int) : Bool := (!false && decide (at' ≥ 0)) && decide (n ≥ 0)
theorem room_eq (b : List Int) (at' n : Int) : ((roomA at' n && decide (at' ≤ (b.length : Int))) && decide (n ≤ (b.length : Int) - at')) = roomF b at' n := by
  unfold roomF roomA
  cases ho : outR b at' n with
  | false =>
    obtain ⟨h1, h2, h3⟩ := outR_iff.1 ho
    rw [decide_eq_true (by omega : at' ≥ 0), decide_eq_true (by omega : n ≥ 0), decide_eq_true (by omega : at' ≤ (b.length : Int)), decide_eq_true (by omega : n ≤ (b.length : Int) - at')]; rfl
  | true =>
    have : ¬ (0 ≤ at' ∧ 0 ≤ n ∧ at' + n ≤ (b.length : Int)) := fun h => by rw [outR_iff.2 h] at ho; cases ho
    by_cases h1 : at' ≥ 0
    · by_cases h2 : n ≥ 0
      · by_cases h3 : at' ≤ (b.length : Int)
        · rw [decide_eq_false (by omega : ¬ n ≤ (b.length : Int) - at')]; simp
        · rw [decide_eq_false h3]; simp
      · rw [decide_eq_false h2]; simp
    · rw [decide_eq_false h1]; simp
end Go.Proofs.Ytalploampmdemaa
