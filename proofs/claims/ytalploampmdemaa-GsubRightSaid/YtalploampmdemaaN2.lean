/- bin.Reader beyond its end; gsub.need, word, count, set, point. -/
import Derived.Test.YtalploampmdemaaN1
set_option maxRecDepth 100000
set_option linter.unusedVariables false
namespace Go.Proofs.Ytalploampmdemaa
open Go Go.Eng Go.RowKit

/-- a reader of one's own -/
abbrev rdC (b : List Int) (bad : Bool) : List Chunk := [.bx 82 [.v (.bool bad)], .rd Int inferInstance 1 bE b, .bx 85 [.bx 0 0, .sl 1]]
abbrev deadC (b : List Int) : List Chunk := [.dead, .rd Int inferInstance 1 bE b, .dead]
theorem spoil_s (bad : Bool) : LCall Try.prog ⟨0, [], [.bx 82 [.v (.bool bad)]], [], []⟩ 67 [.bx 0 0] (fun st' s => st'.ch = [.bx 82 [.v (.bool true)]] ∧ s = .tup []) := by
  refine lcall_exec (cf := cf) cfok (fn := Try.f67) Try.func67 rfl _ _ [.bx 82 [.v (.bool true)]] (.tup []) rfl rfl (by simp [svOkL, svOk]) rfl (by exact ⟨trivial, trivial⟩) rfl rfl ?_
  exact ⟨[0], rfl, rfl, rfl, And.intro (And.intro rfl rfl) trivial, rfl⟩
theorem rowOut_s (b : List Int) (at' n : Int) (hb : b.length ≤ 1099511627776) (ha : IntKind.i64.wrap at' = at') (ho : outR b at' n = true) : LCall Try.prog ⟨0, [], rdC b false, [], []⟩ 55 [.bx 2 0, .v (.int .i64 at'), .v (.int .i64 n)]
    (fun st' s => st'.ch = rdC b true ∧ s = .tup [.v (.slice none 0 0), .v (.bool false)]) := by
  refine lcall_exec (cf := cf) cfok (fn := Try.f55) Try.func55 rfl _ _ (rdC b true) (.tup [.v (.slice none 0 0), .v (.bool false)]) rfl rfl (by simp [svOkL, svOk]) rfl (by exact ⟨trivial, ⟨Nat.le_refl _, rfl⟩, trivial, trivial⟩) rfl rfl ?_
  refine ⟨.bool false, pure_ptrNil (op := .eql) (.inl rfl) ptr30 rfl rfl rfl, ?_⟩
  refine And.intro (fun h => by cases h) (fun _ => ?_)
  refine And.intro (fun _ => ?_) (fun h => ?_)
  rotate_left
  · have h : (((decide (at' < 0) || decide (n < 0)) || decide (at' > (b.length : Int))) || decide (n > IntKind.i64.wrap ((b.length : Int) - at'))) = false := h
    rw [outW hb ha, ho] at h
    cases h
  refine Or.inr (lcall_sub [0] (spoil_s false) rfl rfl rfl rfl rfl (And.intro (And.intro rfl rfl) trivial) ?_)
  exact ⟨[0, 1, 2], rfl, rfl, rfl, And.intro (And.intro rfl rfl) (And.intro rfl (And.intro (And.intro rfl rfl) trivial)), rfl⟩
theorem numOut_s (b : List Int) (at' n : Int) (hb : b.length ≤ 1099511627776) (ha : IntKind.i64.wrap at' = at') (ho : outR b at' n = true) : LCall Try.prog ⟨0, [], rdC b false, [], []⟩ 35 [.bx 2 0, .v (.int .i64 at'), .v (.int .i64 n)]
    (fun st' s => st'.ch = rdC b true ∧ s = .v (.int .u32 0)) := by
  refine lcall_exec (cf := cf) cfok (fn := Try.f35) Try.func35 rfl _ _ (rdC b true) (.v (.int .u32 0)) rfl rfl (by simp [svOkL, svOk]) rfl (by exact ⟨trivial, ⟨Nat.le_refl _, rfl⟩, trivial, trivial⟩) rfl rfl ?_
  refine Or.inr (lcall_sub [0, 1, 2] (rowOut_s b at' n hb ha ho) rfl rfl rfl rfl rfl (And.intro (And.intro rfl rfl) (And.intro rfl (And.intro (And.intro rfl rfl) trivial))) ?_)
  refine ⟨Unit, fun _ => ⟨32, [⟨7, [], .v (.int .u32 0)⟩, ⟨20, [], .v (.int .i64 0)⟩, ⟨21, [], .v (.int .i64 0)⟩], rdC b true, [], dropL nats 3⟩, fun _ => 0, ⟨[0, 1, 2], (), ?_⟩, fun _ => ?_⟩
  · exact And.intro (And.intro rfl (And.intro rfl (And.intro rfl trivial))) (And.intro (And.intro rfl rfl) (And.intro rfl (And.intro (And.intro rfl rfl) trivial)))
  refine And.intro (fun h => by cases h) (fun _ => ?_)
  exact ⟨[0, 1, 2], rfl, rfl, rfl, And.intro (And.intro rfl rfl) (And.intro rfl (And.intro (And.intro rfl rfl) trivial)), rfl⟩
theorem wordOut_s (b : List Int) (at' : Int) (hb : b.length ≤ 1099511627776) (ha : IntKind.i64.wrap at' = at') (ho : outR b at' 2 = true) : LCall Try.prog ⟨0, [], rdC b false, [], []⟩ 21 [.bx 2 0, .v (.int .i64 at')]
    (fun st' s => st'.ch = rdC b true ∧ s = .v (.int .u16 0)) := by
  refine lcall_exec (cf := cf) cfok (fn := Try.f21) Try.func21 rfl _ _ (rdC b true) (.v (.int .u16 0)) rfl rfl (by simp [svOkL, svOk]) rfl (by exact ⟨trivial, ⟨Nat.le_refl _, rfl⟩, trivial, trivial⟩) rfl rfl ?_
  refine Or.inr (lcall_sub [0, 1, 2] (numOut_s b at' 2 hb ha ho) rfl rfl rfl rfl rfl (And.intro (And.intro rfl rfl) (And.intro rfl (And.intro (And.intro rfl rfl) trivial))) ?_)
  exact ⟨[0, 1, 2], rfl, rfl, rfl, And.intro (And.intro rfl rfl) (And.intro rfl (And.intro (And.intro rfl rfl) trivial)), rfl⟩
theorem badB_s (b : List Int) (bad : Bool) : LCall Try.prog ⟨0, [], rdC b bad, [], []⟩ 19 [.bx 2 0] (fun st' s => st'.ch = rdC b bad ∧ s = .v (.bool bad)) := by
  refine lcall_exec (cf := cf) cfok (fn := Try.f19) Try.func19 rfl _ _ (rdC b bad) (.v (.bool bad)) rfl rfl (by simp [svOkL, svOk]) rfl (by exact ⟨trivial, ⟨Nat.le_refl _, rfl⟩, trivial, trivial⟩) rfl rfl ?_
  refine ⟨.bool false, pure_ptrNil (op := .eql) (.inl rfl) ptr30 rfl rfl rfl, ?_⟩
  exact ⟨[0, 1, 2], rfl, rfl, rfl, And.intro (And.intro rfl rfl) (And.intro rfl (And.intro (And.intro rfl rfl) trivial)), rfl⟩

/-- what is given up with -/
abbrev wrongP : List PanicEntry := [{ v := .iface 63 (.agg #[]), recovered := false }]
theorem need_ok (w : World) : Calls Try.prog 18 #[.bool true] w fun e w' => e = .returned (.tuple #[]) ∧ Below w.heap.size w w' := by
  refine calls_exec (cf := cf) cfok (fn := Try.f18) Try.func18 rfl [.v (.bool true)] [] (ρ := fun _ => undef) (· < w.heap.size) rfl rfl rfl (by simp [svOkL, svOk]) (memNil fun _ h => h) ?_
  refine And.intro (fun h => by cases h) (fun _ => ?_)
  exact fun ρ S w' hi => ⟨rfl, hi.below⟩
theorem need_no (w : World) : Calls Try.prog 18 #[.bool false] w fun e w' => e = .panicked wrongP ∧ Below w.heap.size w w' := by
  refine calls_exec (cf := cf) cfok (fn := Try.f18) Try.func18 rfl [.v (.bool false)] [] (ρ := fun _ => undef) (· < w.heap.size) rfl rfl rfl (by simp [svOkL, svOk]) (memNil fun _ h => h) ?_
  refine And.intro (fun _ => ?_) (fun h => by cases h)
  exact fun ρ S w' hi => ⟨rfl, hi.below⟩
theorem lcall_need {st : Eng.St} {K : Eng.St → SV → Prop} {Kp : List PanicEntry → Eng.St → Prop} (c : Bool) (h1 : c = true → K st (.tup [])) (h2 : c = false → Kp wrongP st) : LCall Try.prog st 18 [.v (.bool c)] K Kp := by
  cases c with
  | true => exact lcall_reps [] (fun ρ S w hm => (need_ok w).mono fun e w' hh => ⟨[], hh.1, hh.2, trivial⟩) (h1 rfl)
  | false => exact lcall_panic wrongP (fun ρ S w hm => need_no w) (h2 rfl)

/-- a parser of one's own -/
abbrev paC (b : List Int) (g L s : Int) : List Chunk := [.bx 82 [.v (.bool false)], .rd Int inferInstance 1 bE b, .bx 85 [.bx 0 0, .sl 1], .bx 77 [.bx 2 0, .v (.int .i64 g), .v (.int .i64 L), .v (.int .i64 s)]]
abbrev deC (b : List Int) : List Chunk := [.dead, .rd Int inferInstance 1 bE b, .dead, .dead]
theorem word_s (b : List Int) (g L s at' : Int) (hB : Byt b) (hb : b.length ≤ 100000) (ha : IntKind.i64.wrap at' = at') : LCall Try.prog ⟨0, [], paC b g L s, [], []⟩ 60 [.bx 3 0, .v (.int .i64 at')]
    (fun st' r => outR b at' 2 = false ∧ st'.ch = paC b g L s ∧ r = .v (.int .i64 (w2 (b.drop at'.toNat) 0))) (fun pc' st' => outR b at' 2 = true ∧ st'.ch = deC b ∧ pc' = wrongP) := by
  refine lcall_execP (cf := cf) cfok (fn := Try.f60) Try.func60 rfl _ _ _ (paC b g L s) (.v (.int .i64 (w2 (b.drop at'.toNat) 0))) _ (deC b) wrongP rfl rfl (by simp [svOkL, svOk]) rfl (by exact ⟨trivial, ⟨Nat.le_refl _, rfl⟩, trivial, trivial, trivial⟩) (by exact ⟨trivial, ⟨Nat.le_refl _, rfl⟩, trivial, trivial, trivial⟩) rfl rfl rfl ?_
  cases ho : outR b at' 2 with
  | false =>
    obtain ⟨h0, _, h2⟩ := outR_iff.1 ho
    have hw := w2_range (hB.drop at'.toNat) 0
    refine Or.inl ⟨.int .u16 (w2 (b.drop at'.toNat) 0), fun ρ S w hm => word_x b at' at' 0 hB (by omega) h0 (by omega) (by simp) _ w (hm.rep 40 (.bx 2 0) (.ptr (rdD b)) rfl rfl), ?_⟩
    refine Or.inl ⟨.bool false, fun ρ S w hm => bad_c b _ w (hm.rep 40 (.bx 2 0) (.ptr (rdD b)) rfl rfl), ?_⟩
    refine Or.inr (lcall_need true (fun _ => ?_) (fun h => by cases h))
    exact ⟨rfl, [0, 1, 2, 3], rfl, rfl, rfl, And.intro (And.intro rfl rfl) (And.intro rfl (And.intro (And.intro rfl rfl) (And.intro (And.intro rfl rfl) trivial))), congrArg (fun z : Int => SV.v (.int .i64 z)) (i64_id _ (by omega) (by omega))⟩
  | true =>
    refine Or.inr (lcall_sub [0, 1, 2] (wordOut_s b at' (by omega) ha ho) rfl rfl rfl rfl rfl (And.intro (And.intro rfl rfl) (And.intro rfl (And.intro (And.intro rfl rfl) trivial))) ?_)
    refine Or.inr (lcall_sub [0, 1, 2] (badB_s b true) rfl rfl rfl rfl rfl (And.intro (And.intro rfl rfl) (And.intro rfl (And.intro (And.intro rfl rfl) trivial))) ?_)
    refine Or.inr (lcall_need false (fun h => by cases h) (fun _ => ?_))
    exact ⟨rfl, rfl, [0, 1, 2, 3], rfl, rfl, rfl, And.intro trivial (And.intro rfl (And.intro trivial (And.intro trivial trivial)))⟩
end Go.Proofs.Ytalploampmdemaa
