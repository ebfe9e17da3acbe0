/- calamuslaw01.FixedKnown. -/
import Derived.Test.YtfjkajlkehjnnaaGreatDoorB11
import Derived.Test.YtfjkajlkehjnnaaGreatDoorB18
import Derived.Test.YtfjkajlkehjnnaaGreatDoorB25
set_option maxRecDepth 100000
set_option linter.unusedVariables false
namespace Go.Proofs.YtfjkajlkehjnnaaGreatDoor
open Go Go.Eng Go.RowKit Go.Ar

abbrev sE : List UInt8 → List DV := fun l => [.v (.string (bs l))]
abbrev owS (xs : List (List UInt8)) : Chunk := .own 9 (List UInt8) inferInstance 1 sE xs
abbrev zE : Int → List DV := fun n => [.v (.int .i64 n)]
abbrev owZ (xs : List Int) : Chunk := .own 2 Int inferInstance 1 zE xs
def texts : List (List UInt8) := [[49, 46, 53], [45, 48, 46, 48, 48, 48, 48, 49], [46, 53], [48, 46, 48, 48, 48, 48, 48, 55, 54, 50, 57, 51, 57, 52, 53, 51, 49, 50], [48, 48, 46, 53], [], [45], [45, 46], [49, 46], [49, 46, 50, 46, 51], [43, 49], [49, 101, 53], [32, 49], [45, 45, 49], [49, 52, 48, 55, 51, 55, 52, 56, 56, 51, 53, 53, 51, 50, 55, 46, 57, 57, 57, 57, 57, 50, 51, 55, 48, 54, 48, 53, 52, 54, 56, 55, 53], [49, 52, 48, 55, 51, 55, 52, 56, 56, 51, 53, 53, 51, 50, 55, 46, 57, 57, 57, 57, 57, 50, 51, 55, 48, 54, 48, 53, 52, 54, 56, 55, 52, 57, 57], [45, 49, 52, 48, 55, 51, 55, 52, 56, 56, 51, 53, 53, 51, 50, 56], [49, 52, 48, 55, 51, 55, 52, 56, 56, 51, 53, 53, 51, 50, 56], [45, 49, 52, 48, 55, 51, 55, 52, 56, 56, 51, 53, 53, 51, 50, 56, 46, 48, 48, 48, 48, 49], [48, 46, 48, 48, 48, 48, 48, 55, 54, 50, 57, 51, 57, 52, 53, 51, 49, 50, 53], [45, 48, 46, 48, 48, 48, 48, 48, 55, 54, 50, 57, 51, 57, 52, 53, 51, 49, 50, 53], [45, 48], List.replicate 40 57, List.replicate 41 57]
def edges : List Int := [0, 1, -1, 2, -2, 65535, 65536, -65537, 2147483648, 2147483647, -2147483648, 4294967296, 4611686018427387904, -4611686018427387904, 9223372036854775807, -9223372036854775808, -9223372036854775807]
theorem texts_len : texts.length = 24 := rfl
theorem edges_len : edges.length = 17 := rfl
theorem edges_I (i : Nat) (h : i < 17) : I64 (nth edges i) := by
  have : ∀ i : Fin 17, -9223372036854775808 ≤ nth edges i.val ∧ nth edges i.val ≤ 9223372036854775807 := by decide +kernel
  exact ⟨(this ⟨i, h⟩).1, (this ⟨i, h⟩).2⟩
theorem u16_range (x : Int) : 0 ≤ IntKind.u16.wrap x ∧ IntKind.u16.wrap x ≤ 65535 := by
  simp only [IntKind.wrap, IntKind.bits, IntKind.signed, Bool.false_and]
  simp
  omega
theorem memBoth {w : World} {n : Nat} {env : List Ent} {ρ : Nat → Value} {ids : List Nat} {tp : TypeId} {p : Value} (ht : Lib.TabIs Tryz.prog w "internal/strconv.uint64pow10" .u64 Lib.pow10Tab) (hE : ErrR w tp p) : MemOk ⟨n, env, [powG, errG tp p], [], ids⟩ ρ (· < w.heap.size) w := by
  refine ⟨fun id hid => ?_, fun id => ?_, fun i j b hi hj hij e1 e2 => ?_, fun i b hi e1 => ?_, fun b hb => hb, fun id => ?_⟩
  · match id, hid with
    | 0, _ => exact (memPow (n := n) (env := env) (ρ := ρ) (ids := ids) ht).ok 0 (show 0 < 1 by omega)
    | 1, _ => exact (memErr (n := n) (env := env) (ρ := ρ) (ids := ids) hE).ok 0 (show 0 < 1 by omega)
    | k + 2, h => exact absurd (show k + 2 < 2 from h) (by omega)
  · match id with
    | 0 => exact trivial
    | 1 => exact trivial
    | k + 2 => rw [chGet_out _ _ (by simp)]; exact trivial
  · have h1 : i < 2 := hi
    match i, h1 with
    | 0, _ => simp [chGet, ownBlk] at e1
    | 1, _ => simp [chGet, ownBlk] at e1
  · have h1 : i < 2 := hi
    match i, h1 with
    | 0, _ => simp [chGet, ownBlk] at e1
    | 1, _ => simp [chGet, ownBlk] at e1
  · match id with
    | 0 => intro q hq; simp [chGet, condsOf] at hq
    | 1 => intro q hq; simp [chGet, condsOf] at hq
    | k + 2 => rw [chGet_out _ _ (by simp)]; intro q hq; simp [condsOf] at hq

theorem prt1 : printB 98304 = [49, 46, 53] := by
  unfold printB
  rw [show ((98304 : Int).natAbs / 65536) = 1 from rfl, dd_small (by decide)]
  decide +kernel
theorem prt2 : printB 0 = [48] := by
  unfold printB
  rw [show ((0 : Int).natAbs / 65536) = 0 from rfl, dd_small (by decide)]
  decide +kernel
theorem dd15 : Lib.decDigits 140737488355328 = [49, 52, 48, 55, 51, 55, 52, 56, 56, 51, 53, 53, 51, 50, 56] := by
  rw [dd_big (by decide), dd_big (by decide), dd_big (by decide), dd_big (by decide), dd_big (by decide), dd_big (by decide), dd_big (by decide), dd_big (by decide), dd_big (by decide), dd_big (by decide), dd_big (by decide), dd_big (by decide), dd_big (by decide), dd_big (by decide), dd_small (by decide)]
  decide +kernel
theorem prt3 : printB (-9223372036854775808) = [45, 49, 52, 48, 55, 51, 55, 52, 56, 56, 51, 53, 53, 51, 50, 56] := by
  unfold printB
  rw [show ((-9223372036854775808 : Int).natAbs / 65536) = 140737488355328 from rfl, dd15]
  decide +kernel

theorem lawKnown_c (w : World) {tp : TypeId} {p : Value} (ht : Lib.TabIs Tryz.prog w "internal/strconv.uint64pow10" .u64 Lib.pow10Tab) (hE : ErrR w tp p) : Calls Tryz.prog 3 #[] w fun e w' => e = .returned (.bool true) ∧ Below w.heap.size w w' := by
  have rnd : ∀ a b c x y : Int, roundF a b c = (x, y) → I64 a → I64 b → I64 c → ∀ w, Calls Tryz.prog 4 #[.int .i64 a, .int .i64 b, .int .i64 c] w fun e w' => e = .returned (.tuple #[.int .i64 x, .int .i64 y]) ∧ Below w.heap.size w w' := fun a b c x y h ha hb hc w => by
    have := round_c a b c ha hb hc w
    rw [h] at this
    exact this
  have mul : ∀ a b c x y : Int, mulDivF a b c = (x, y) → I64 a → I64 b → I64 c → ∀ w, Calls Tryz.prog 5 #[.int .i64 a, .int .i64 b, .int .i64 c] w fun e w' => e = .returned (.tuple #[.int .i64 x, .int .i64 y]) ∧ Below w.heap.size w w' := fun a b c x y h ha hb hc w => by
    have := mulDiv_c a b c ha hb hc w
    rw [h] at this
    exact this
  have rea : ∀ (l : List UInt8) (x y : Int), readF l = (x, y) → l.length ≤ 1000 → ∀ w, ErrR w tp p → Calls Tryz.prog 8 #[.string (bs l)] w fun e w' => e = .returned (.tuple #[.int .i64 x, .int .i64 y]) ∧ Below w.heap.size w w' := fun l x y h hl w hE => by
    have := read_g l hl w hE
    rw [h] at this
    exact this
  have prt : ∀ (n : Int) (l : List UInt8), printB n = l → I64 n → ∀ w, Lib.TabIs Tryz.prog w "internal/strconv.uint64pow10" .u64 Lib.pow10Tab → Calls Tryz.prog 6 #[.int .i64 n] w fun e w' => e = .returned (.string (bs l)) ∧ Below w.heap.size w w' := fun n l h hn w ht => by
    have := print_g n w ht hn.lo hn.hi
    rw [h] at this
    exact this
  refine calls_exec (cf := cf) cfok (fn := Tryz.f3) Tryz.func3 rfl [] [powG, errG tp p] (ρ := fun _ => undef) (· < w.heap.size) rfl rfl rfl (by simp [svOkL]) (memBoth ht hE) ?_
  refine Or.inl ⟨.tuple #[.int .i64 (-4), .int .i64 0], fun ρ S w' hm => rnd (-7) 1 2 _ _ (by decide +kernel) ⟨by decide, by decide⟩ ⟨by decide, by decide⟩ ⟨by decide, by decide⟩ w', ?_⟩
  refine Or.inl ⟨.tuple #[.int .i64 4, .int .i64 0], fun ρ S w' hm => rnd 7 1 2 _ _ (by decide +kernel) ⟨by decide, by decide⟩ ⟨by decide, by decide⟩ ⟨by decide, by decide⟩ w', ?_⟩
  refine Or.inl ⟨.tuple #[.int .i64 1, .int .i64 0], fun ρ S w' hm => rnd 5 1 4 _ _ (by decide +kernel) ⟨by decide, by decide⟩ ⟨by decide, by decide⟩ ⟨by decide, by decide⟩ w', ?_⟩
  refine Or.inl ⟨.tuple #[.int .i64 0, .int .i64 10], fun ρ S w' hm => mul 4611686018427387904 6 3 _ _ (by decide +kernel) ⟨by decide, by decide⟩ ⟨by decide, by decide⟩ ⟨by decide, by decide⟩ w', ?_⟩
  refine Or.inl ⟨.tuple #[.int .i64 6917529027641081856, .int .i64 0], fun ρ S w' hm => mul 4611686018427387904 3 2 _ _ (by decide +kernel) ⟨by decide, by decide⟩ ⟨by decide, by decide⟩ ⟨by decide, by decide⟩ w', ?_⟩
  refine Or.inl ⟨.tuple #[.int .i64 0, .int .i64 2], fun ρ S w' hm => mul 1 1 0 _ _ (by decide +kernel) ⟨by decide, by decide⟩ ⟨by decide, by decide⟩ ⟨by decide, by decide⟩ w', ?_⟩
  refine Or.inl ⟨.string (bs [49, 46, 53]), fun ρ S w' hm => prt 98304 _ prt1 ⟨by decide, by decide⟩ w' (powOf hm), ?_⟩
  refine Or.inl ⟨.string (bs [48]), fun _ ρ S w' hm => prt 0 _ prt2 ⟨by decide, by decide⟩ w' (powOf hm), ?_⟩
  refine Or.inl ⟨.string (bs [45, 49, 52, 48, 55, 51, 55, 52, 56, 56, 51, 53, 53, 51, 50, 56]), fun _ ρ S w' hm => prt (-9223372036854775808) _ prt3 ⟨by decide, by decide⟩ w' (powOf hm), ?_⟩
  refine ⟨{ i : Nat // i ≤ 24 }, fun i => ⟨221, [⟨13, [], .v (.bool true)⟩, ⟨14, [], .v (.bool true)⟩, ⟨15, [], .sl 2⟩, ⟨16, [], .v (.int .i64 (i.1 : Nat))⟩], [powG, errG tp p, owS texts], [], dropL nats 3⟩, fun i => 24 - i.1, ⟨[0, 1, 2], ⟨0, by omega⟩, ?_⟩, fun i => ?_⟩
  · refine And.intro (And.intro (congrArg (fun b => SV.v (Value.bool b)) ?_) (And.intro (congrArg (fun b => SV.v (Value.bool b)) ?_) (And.intro rfl (And.intro rfl trivial)))) (And.intro rfl (And.intro rfl (And.intro ⟨rfl, rfl, rfl, rfl, by simp [texts]⟩ trivial)))
    · decide +kernel
    · decide +kernel
  obtain ⟨i, hi⟩ := i
  refine And.intro (fun hlt => ?_) (fun hge => ?_)
  · have hlt : i < 24 := by
      have : (i : Int) < ((texts.length : Nat) : Int) := of_decide_eq_true hlt
      rw [texts_len] at this
      omega
    refine And.intro (show (0 : Int) ≤ (i : Int) ∧ (i : Int) < ((texts.length : Nat) : Int) from ⟨by omega, by rw [texts_len]; omega⟩) ?_
    refine Or.inl ⟨.bool true, fun ρ S w' hm => by
      show Calls _ 7 #[.string (bs (nth texts i)), .int .u8 (IntKind.u8.wrap ((i : Nat) : Int))] _ _
      rw [IntWalk.u8_in _ ⟨by omega, by omega⟩]
      exact lawReads_c (nth texts i) i (by omega) w' (errOf (tp := tp) (p := p) hm), ?_⟩
    refine And.intro (fun h => by cases h) (fun _ => ?_)
    exact ⟨[0, 1, 2], ⟨i + 1, hlt⟩, And.intro (And.intro rfl (And.intro rfl (And.intro rfl (And.intro (svI (i64_succ i (by omega))) trivial)))) (And.intro rfl (And.intro rfl (And.intro rfl trivial))), by show 24 - (i + 1) < 24 - i; omega⟩
  refine Or.inl ⟨.tuple #[.int .i64 (-1), .int .i64 0], fun ρ S w' hm => rea [45, 48, 46, 48, 48, 48, 48, 49] _ _ (by decide +kernel) (by decide) w' (errOf (tp := tp) (p := p) hm), ?_⟩
  refine Or.inl ⟨.tuple #[.int .i64 0, .int .i64 0], fun ρ S w' hm => rea [48, 46, 48, 48, 48, 48, 48, 55, 54, 50, 57, 51, 57, 52, 53, 51, 49, 50] _ _ (by decide +kernel) (by decide) w' (errOf (tp := tp) (p := p) hm), ?_⟩
  refine Or.inl ⟨.tuple #[.int .i64 1, .int .i64 0], fun ρ S w' hm => rea [48, 46, 48, 48, 48, 48, 48, 55, 54, 50, 57, 51, 57, 52, 53, 51, 49, 50, 53] _ _ (by decide +kernel) (by decide) w' (errOf (tp := tp) (p := p) hm), ?_⟩
  refine ⟨{ m : Nat // m ≤ 17 }, fun m => ⟨221, [⟨13, [], .v (.bool true)⟩, ⟨14, [], .v (.bool true)⟩, ⟨17, [], .v (.int .i64 (-1))⟩, ⟨18, [], .v (.int .i64 0)⟩, ⟨19, [], .v (.int .i64 0)⟩, ⟨20, [], .v (.int .i64 0)⟩, ⟨21, [], .v (.int .i64 1)⟩, ⟨22, [], .v (.int .i64 0)⟩, ⟨23, [], .sl 2⟩, ⟨24, [], .v (.int .i64 (m.1 : Nat))⟩], [powG, errG tp p, owZ edges], [], dropL nats 3⟩, fun m => 17 - m.1, ⟨[0, 1, 3], ⟨0, by omega⟩, ?_⟩, fun m => ?_⟩
  · exact And.intro (And.intro rfl (And.intro rfl (And.intro rfl (And.intro rfl (And.intro rfl (And.intro rfl (And.intro rfl (And.intro rfl (And.intro rfl (And.intro rfl trivial)))))))))) (And.intro rfl (And.intro rfl (And.intro ⟨rfl, rfl, rfl, rfl, by simp [edges]⟩ trivial)))
  obtain ⟨m, hm⟩ := m
  refine And.intro (fun hlt => ?_) (fun hge => ?_)
  · have hlt : m < 17 := by
      have : (m : Int) < ((edges.length : Nat) : Int) := of_decide_eq_true hlt
      rw [edges_len] at this
      omega
    have bm : (0 : Int) ≤ (m : Int) ∧ (m : Int) < ((edges.length : Nat) : Int) := by rw [edges_len]; omega
    have im := edges_I m hlt
    refine ⟨{ n : Nat // n ≤ 17 }, fun n => ⟨221, [⟨13, [], .v (.bool true)⟩, ⟨14, [], .v (.bool true)⟩, ⟨17, [], .v (.int .i64 (-1))⟩, ⟨18, [], .v (.int .i64 0)⟩, ⟨19, [], .v (.int .i64 0)⟩, ⟨20, [], .v (.int .i64 0)⟩, ⟨21, [], .v (.int .i64 1)⟩, ⟨22, [], .v (.int .i64 0)⟩, ⟨23, [], .sl 2⟩, ⟨24, [], .v (.int .i64 (m : Nat))⟩, ⟨25, [], .v (.int .i64 (n.1 : Nat))⟩], [powG, errG tp p, owZ edges], [], dropL nats 3⟩, fun n => 17 - n.1, ⟨[0, 1, 2], ⟨0, by omega⟩, ?_⟩, fun n => ?_⟩
    · exact And.intro (And.intro rfl (And.intro rfl (And.intro rfl (And.intro rfl (And.intro rfl (And.intro rfl (And.intro rfl (And.intro rfl (And.intro rfl (And.intro rfl (And.intro rfl trivial))))))))))) (And.intro rfl (And.intro rfl (And.intro rfl trivial)))
    obtain ⟨n, hn⟩ := n
    refine And.intro (fun hlt2 => ?_) (fun hge2 => ?_)
    · have hlt2 : n < 17 := by
        have : (n : Int) < ((edges.length : Nat) : Int) := of_decide_eq_true hlt2
        rw [edges_len] at this
        omega
      have bn : (0 : Int) ≤ (n : Int) ∧ (n : Int) < ((edges.length : Nat) : Int) := by rw [edges_len]; omega
      have iN := edges_I n hlt2
      refine ⟨{ o : Nat // o ≤ 20 }, fun o => ⟨221, [⟨13, [], .v (.bool true)⟩, ⟨14, [], .v (.bool true)⟩, ⟨17, [], .v (.int .i64 (-1))⟩, ⟨18, [], .v (.int .i64 0)⟩, ⟨19, [], .v (.int .i64 0)⟩, ⟨20, [], .v (.int .i64 0)⟩, ⟨21, [], .v (.int .i64 1)⟩, ⟨22, [], .v (.int .i64 0)⟩, ⟨23, [], .sl 2⟩, ⟨24, [], .v (.int .i64 (m : Nat))⟩, ⟨25, [], .v (.int .i64 (n : Nat))⟩, ⟨26, [], .v (.int .i64 (o.1 : Nat))⟩], [powG, errG tp p, owZ edges], [], dropL nats 3⟩, fun o => 20 - o.1, ⟨[0, 1, 2], ⟨0, by omega⟩, ?_⟩, fun o => ?_⟩
      · exact And.intro (And.intro rfl (And.intro rfl (And.intro rfl (And.intro rfl (And.intro rfl (And.intro rfl (And.intro rfl (And.intro rfl (And.intro rfl (And.intro rfl (And.intro rfl (And.intro rfl trivial)))))))))))) (And.intro rfl (And.intro rfl (And.intro rfl trivial)))
      obtain ⟨o, ho⟩ := o
      refine And.intro (fun hlt3 => ?_) (fun hge3 => ?_)
      · have hlt3 : o < 17 := by
          have : (o : Int) < ((edges.length : Nat) : Int) := of_decide_eq_true hlt3
          rw [edges_len] at this
          omega
        have bo : (0 : Int) ≤ (o : Int) ∧ (o : Int) < ((edges.length : Nat) : Int) := by rw [edges_len]; omega
        have io := edges_I o hlt3
        refine Or.inl ⟨by kernel_rfl, ?_⟩
        refine And.intro bm ?_
        refine And.intro bn ?_
        refine And.intro bo ?_
        refine ⟨.bool true, fun ρ S w' _ => lawQuotients_c works_c _ _ _ im iN io w', ?_⟩
        refine And.intro (fun h => by cases h) (fun _ => ?_)
        refine ⟨[0, 1, 2], ⟨o + 3, by omega⟩, And.intro (And.intro rfl (And.intro rfl (And.intro rfl (And.intro rfl (And.intro rfl (And.intro rfl (And.intro rfl (And.intro rfl (And.intro rfl (And.intro rfl (And.intro rfl (And.intro (svI ?_) trivial)))))))))))) (And.intro rfl (And.intro rfl (And.intro rfl trivial))), by show 20 - (o + 3) < 20 - o; omega⟩
        show IntKind.i64.wrap ((o : Int) + 3) = ((o + 3 : Nat) : Int)
        rw [IntWalk.i64_in _ ⟨by omega, by omega⟩]; omega
      · refine Or.inl ⟨by kernel_rfl, ?_⟩
        refine And.intro bm ?_
        refine And.intro bn ?_
        refine ⟨.bool true, fun ρ S w' _ => lawSums_c works_c _ _ im iN w', ?_⟩
        refine And.intro (fun _ => bm) ?_
        refine And.intro (fun _ => bn) ?_
        refine And.intro (fun _ => bm) ?_
        refine ⟨.bool true, fun _ ρ S w' _ => lawScales_c works_c _ _ _ im iN (u16_range _) w', ?_⟩
        refine And.intro (fun h => by cases h) (fun _ => ?_)
        exact ⟨[0, 1, 2], ⟨n + 1, hlt2⟩, And.intro (And.intro rfl (And.intro rfl (And.intro rfl (And.intro rfl (And.intro rfl (And.intro rfl (And.intro rfl (And.intro rfl (And.intro rfl (And.intro rfl (And.intro (svI (i64_succ n (by omega))) trivial))))))))))) (And.intro rfl (And.intro rfl (And.intro rfl trivial))), by show 17 - (n + 1) < 17 - n; omega⟩
    · refine And.intro bm ?_
      refine Or.inl ⟨.bool true, fun ρ S w' hm => lawPrints_c _ im w' (powOf hm), ?_⟩
      refine And.intro (fun h => by cases h) (fun _ => ?_)
      exact ⟨[0, 1, 2], ⟨m + 1, hlt⟩, And.intro (And.intro rfl (And.intro rfl (And.intro rfl (And.intro rfl (And.intro rfl (And.intro rfl (And.intro rfl (And.intro rfl (And.intro rfl (And.intro (svI (i64_succ m (by omega))) trivial)))))))))) (And.intro rfl (And.intro rfl (And.intro rfl trivial))), by show 17 - (m + 1) < 17 - m; omega⟩
  refine Or.inl ⟨.bool true, fun _ ρ S w' _ => lawNear_c works_c 7 3 (-2) ⟨by decide, by decide⟩ ⟨by decide, by decide⟩ ⟨by decide, by decide⟩ w', ?_⟩
  refine Or.inl ⟨.bool true, fun _ ρ S w' _ => lawNear_c works_c (-7) 3 2 ⟨by decide, by decide⟩ ⟨by decide, by decide⟩ ⟨by decide, by decide⟩ w', ?_⟩
  refine Or.inl ⟨.bool true, fun _ ρ S w' _ => works_c w', ?_⟩
  exact fun ρ S w' hi => ⟨rfl, hi.below⟩
theorem lawKnown_k (w : World) (hL : laidMetH Tryz.prog laidL w) : Calls Tryz.prog 3 #[] w fun e w' => e = .returned (.bool true) ∧ Below w.heap.size w w' := by
  obtain ⟨tp, p, hE⟩ := err_of hL
  exact lawKnown_c w (tab_of hL) hE
end Go.Proofs.YtfjkajlkehjnnaaGreatDoor
