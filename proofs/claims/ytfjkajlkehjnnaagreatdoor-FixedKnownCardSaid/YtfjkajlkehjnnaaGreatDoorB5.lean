/- strings.CutPrefix, strings.Cut at one byte. -/
import Derived.Test.YtfjkajlkehjnnaaGreatDoorB4
import Derived.Lib.Bytealg
set_option maxRecDepth 100000
set_option linter.unusedVariables false
namespace Go.Proofs.YtfjkajlkehjnnaaGreatDoor
open Go Go.Eng Go.RowKit

abbrev bs (l : List UInt8) : ByteArray := ⟨l.toArray⟩
theorem bs_size (l : List UInt8) : (bs l).size = l.length := List.size_toArray
theorem bs_of (s : ByteArray) : bs s.data.toList = s := by cases s; rfl
theorem bs_extract (l : List UInt8) (a b : Nat) : (bs l).extract a b = bs ((l.drop a).take (b - a)) := by
  apply ba_ext
  simp
theorem bs_list (l : List UInt8) : (bs l).toList = l := by rw [ByteArray.toList_eq]

theorem head_neg (l : List UInt8) (h : 1 ≤ l.length) : ((l.drop 0).take 1 == [45]) = (l.head? == some 45) := by
  cases l with
  | nil => simp at h
  | cons a r => simp [List.take]
theorem hasPrefix_c (l : List UInt8) (hl : l.length ≤ 9223372036854775807) (w : World) : Calls Tryz.prog 68 #[.string (bs l), .string (bs [45])] w fun e w' => e = .returned (.bool (l.head? == some 45)) ∧ Below w.heap.size w w' := by
  refine calls_exec (cf := cf) cfok (fn := Tryz.f68) Tryz.func68 rfl [.v (.string (bs l)), .v (.string (bs [45]))] [] (ρ := fun _ => undef) (· < w.heap.size) rfl rfl rfl (by simp [svOkL, svOk]) (memNil fun _ h => h) ?_
  refine Or.inl (And.intro (fun h => ?_) ?_)
  · have h : ((1 : Nat) : Int) ≤ ((bs l).size : Int) := of_decide_eq_true h
    exact ⟨by decide, by decide, h⟩
  refine fun ρ S w' hi => ⟨congrArg (fun b : Bool => Ending.returned (.bool b)) ?_, hi.below⟩
  show (decide (((1 : Nat) : Int) ≤ ((bs l).size : Int)) && ((bs l).extract 0 1).toList == (bs [45]).toList) = (l.head? == some 45)
  rw [bs_extract, bs_list, bs_list, bs_size]
  cases l with
  | nil => rfl
  | cons a r => simp; intros; omega

theorem cutPrefix_c (l : List UInt8) (hl : l.length ≤ 9223372036854775807) (w : World) : Calls Tryz.prog 25 #[.string (bs l), .string (bs [45])] w fun e w' =>
    e = .returned (.tuple #[.string (bs (if l.head? == some 45 then l.drop 1 else l)), .bool (l.head? == some 45)]) ∧ Below w.heap.size w w' := by
  refine calls_exec (cf := cf) cfok (fn := Tryz.f25) Tryz.func25 rfl [.v (.string (bs l)), .v (.string (bs [45]))] [] (ρ := fun _ => undef) (· < w.heap.size) rfl rfl rfl (by simp [svOkL, svOk]) (memNil fun _ h => h) ?_
  refine Or.inl ⟨.tuple #[.string (bs (if l.head? == some 45 then l.drop 1 else l)), .bool (l.head? == some 45)], fun ρ S w' hm => ?_, fun ρ S w' hi => ⟨rfl, hi.below⟩⟩
  refine calls_exec (cf := cf) cfok (fn := Tryz.f52) Tryz.func52 rfl [.v (.string (bs l)), .v (.string (bs [45]))] [] (ρ := fun _ => undef) (· < w'.heap.size) rfl rfl rfl (by simp [svOkL, svOk]) (memNil fun _ h => h) ?_
  refine Or.inl ⟨_, fun ρ S w' hm => hasPrefix_c l hl w', ?_⟩
  refine And.intro (fun h => ?_) (fun h => ?_)
  · have h : (l.head? == some 45) = false := by simpa using h
    rw [h]
    exact fun ρ S w' hi => ⟨rfl, hi.below⟩
  · have h : (l.head? == some 45) = true := by simpa using h
    have h1 : 1 ≤ l.length := by cases l with | nil => simp at h | cons => simp
    rw [h, if_pos rfl]
    refine And.intro ⟨by decide, by rw [bs_size]; exact Int.ofNat_le.2 h1, Int.le_refl _⟩ ?_
    refine fun ρ S w' hi => ⟨congrArg (fun b : ByteArray => Ending.returned (.tuple #[.string b, .bool true])) ?_, hi.below⟩
    show (bs l).extract 1 (bs l).size = _
    rw [bs_extract, bs_size, List.take_of_length_le (by simp)]

theorem pure_indexByte {st : St} {L : List (Nat × Bool)} {x y : Operand} {ts : Array TypeId} {s : ByteArray} {c : Int} (hx : getV st L x = some (.v (.string s))) (hy : getV st L y = some (.v (.int .u8 c))) :
    PureS Tryz.prog st L (.call ⟨.value (.func 104), #[x, y], ts⟩) (.v (.int .i64 (Lib.indexByte s.data.toList c.toNat.toUInt8))) := by
  intro ρ S w e o hm hL he ho
  have h1 := he x _ hx
  have h3 := he y _ hy
  have h2 := he (.func 104) _ rfl
  have hr := run_callFunc_extern (w := w) (args := #[.string s, .int .u8 c]) Tryz.func104 (by kernel_rfl) (by kernel_rfl) (by kernel_rfl) (e := Extern.BytealgIndexByte.indexByte) (by kernel_rfl)
  simp only [den] at h1 h2 h3
  simp [execOp, ho, resolve, h2, Deferred.ofValue, invoke, h1, h3, hr, Lib.run_indexByteString, den]

theorem indexByte_c (l : List UInt8) (c : Int) (w : World) : Calls Tryz.prog 91 #[.string (bs l), .int .u8 c] w fun e w' => e = .returned (.int .i64 (Lib.indexByte l c.toNat.toUInt8)) ∧ Below w.heap.size w w' := by
  refine calls_exec (cf := cf) cfok (fn := Tryz.f91) Tryz.func91 rfl [.v (.string (bs l)), .v (.int .u8 c)] [] (ρ := fun _ => undef) (· < w.heap.size) rfl rfl rfl (by simp [svOkL, svOk]) (memNil fun _ h => h) ?_
  refine ⟨_, by simp [svOk], pure_indexByte rfl rfl, ?_⟩
  exact fun ρ S w' hi => ⟨rfl, hi.below⟩

/-- the first place of a byte -/
theorem idx_some : ∀ (l : List UInt8) (c : UInt8), Lib.indexByte l c = if c ∈ l then ((l.takeWhile (· ≠ c)).length : Int) else -1
  | [], c => rfl
  | a :: r, c => by
    unfold Lib.indexByte
    rw [idx_some r c]
    by_cases h : a = c
    · subst h; simp
    · have h' : ¬ c = a := fun e => h e.symm
      by_cases h2 : c ∈ r
      · simp [h, h', h2]
      · simp [h, h', h2]

theorem index_c (l : List UInt8) (w : World) (hl : l.length ≤ 9223372036854775807) : Calls Tryz.prog 69 #[.string (bs l), .string (bs [46])] w fun e w' => e = .returned (.int .i64 (Lib.indexByte l 46)) ∧ Below w.heap.size w w' := by
  refine calls_exec (cf := cf) cfok (fn := Tryz.f69) Tryz.func69 rfl [.v (.string (bs l)), .v (.string (bs [46]))] [] (ρ := fun _ => undef) (· < w.heap.size) rfl rfl rfl (by simp [svOkL, svOk]) (memNil fun _ h => h) ?_
  refine And.intro (fun h => ?_) (fun h => ?_)
  · have h : (false || (bs [46]).toList == (bs l).toList) = true := h
    rw [bs_list, bs_list] at h
    have h : [46] = l := by simpa using h
    subst h
    exact fun ρ S w' hi => ⟨rfl, hi.below⟩
  refine And.intro (fun _ => ?_) (fun h => by cases h)
  refine ⟨_, pure_strIndex (s := bs [46]) (z := 0) (b := 46) ttok rfl rfl rfl (by decide) (by decide) rfl, ?_⟩
  refine Or.inl ⟨_, fun ρ S w' hm => indexByte_c l 46 w', ?_⟩
  exact fun ρ S w' hi => ⟨rfl, hi.below⟩

def wholeF (l : List UInt8) : List UInt8 := l.takeWhile (· ≠ 46)
def partF (l : List UInt8) : List UInt8 := (l.dropWhile (· ≠ 46)).drop 1
theorem take_tw (p : UInt8 → Bool) : ∀ l : List UInt8, l.take (l.takeWhile p).length = l.takeWhile p
  | [] => rfl
  | a :: r => by
    by_cases h : p a = true
    · simp [h, take_tw p r]
    · simp [h]
theorem drop_tw (p : UInt8 → Bool) : ∀ l : List UInt8, l.drop (l.takeWhile p).length = l.dropWhile p
  | [] => rfl
  | a :: r => by
    by_cases h : p a = true
    · simp [h, drop_tw p r]
    · simp [h]
theorem tw_none : ∀ l : List UInt8, (46 : UInt8) ∉ l → wholeF l = l ∧ partF l = []
  | [], _ => ⟨rfl, rfl⟩
  | a :: r, h => by
    simp only [List.mem_cons, not_or] at h
    obtain ⟨h1, h2⟩ := tw_none r h.2
    have ha : ¬ a = 46 := fun e => h.1 e.symm
    unfold wholeF partF at *
    constructor
    · simp [ha]; simpa using h1
    · simp [ha]; simpa using h2
theorem tw_lt : ∀ l : List UInt8, (46 : UInt8) ∈ l → (wholeF l).length < l.length
  | [], h => by simp at h
  | a :: r, h => by
    unfold wholeF
    by_cases ha : a = 46
    · simp [ha]
    · have hr : (46 : UInt8) ∈ r := by rcases List.mem_cons.1 h with e | e
                                       · exact absurd e.symm ha
                                       · exact e
      have := tw_lt r hr
      unfold wholeF at this
      simp [ha] at this ⊢
      exact this

theorem cut_c (l : List UInt8) (hl : l.length ≤ 9223372036854775806) (w : World) : Calls Tryz.prog 26 #[.string (bs l), .string (bs [46])] w fun e w' =>
    e = .returned (.tuple #[.string (bs (wholeF l)), .string (bs (partF l)), .bool (decide ((46 : UInt8) ∈ l))]) ∧ Below w.heap.size w w' := by
  refine calls_exec (cf := cf) cfok (fn := Tryz.f26) Tryz.func26 rfl [.v (.string (bs l)), .v (.string (bs [46]))] [] (ρ := fun _ => undef) (· < w.heap.size) rfl rfl rfl (by simp [svOkL, svOk]) (memNil fun _ h => h) ?_
  refine Or.inl ⟨.tuple #[.string (bs (wholeF l)), .string (bs (partF l)), .bool (decide ((46 : UInt8) ∈ l))], fun ρ S w' hm => ?_, fun ρ S w' hi => ⟨rfl, hi.below⟩⟩
  refine calls_exec (cf := cf) cfok (fn := Tryz.f53) Tryz.func53 rfl [.v (.string (bs l)), .v (.string (bs [46]))] [] (ρ := fun _ => undef) (· < w'.heap.size) rfl rfl rfl (by simp [svOkL, svOk]) (memNil fun _ h => h) ?_
  refine Or.inl ⟨_, fun ρ S w' hm => index_c l w' (by omega), ?_⟩
  have hidx := idx_some l 46
  by_cases hin : (46 : UInt8) ∈ l
  · rw [if_pos hin] at hidx
    have hlt := tw_lt l hin
    unfold wholeF at hlt
    refine And.intro (fun _ => ?_) (fun h => ?_)
    · refine Or.inl ⟨by kernel_rfl, ?_⟩
      have e1 : IntKind.i64.wrap (Lib.indexByte l 46 + ((bs [46]).size : Int)) = (((l.takeWhile (· ≠ 46)).length + 1 : Nat) : Int) := by
        rw [hidx, bs_size, IntWalk.i64_in _ ⟨by simp only [List.length_singleton]; omega, by simp only [List.length_singleton]; omega⟩]; simp
      refine And.intro ⟨by decide, by rw [hidx]; omega, by rw [hidx, bs_size]; omega⟩ ?_
      refine And.intro ⟨by rw [e1]; omega, by rw [e1, bs_size]; omega, Int.le_refl _⟩ ?_
      refine fun ρ S w' hi => ⟨congrArg Ending.returned ?_, hi.below⟩
      show Value.tuple #[.string ((bs l).extract 0 (Lib.indexByte l 46).toNat), .string ((bs l).extract (IntKind.i64.wrap (Lib.indexByte l 46 + ((bs [46]).size : Int))).toNat (bs l).size), .bool true] = _
      rw [e1, hidx, bs_extract, bs_extract, bs_size]
      have f1 : (l.drop 0).take ((((l.takeWhile (· ≠ 46)).length : Nat) : Int).toNat - 0) = wholeF l := by
        simp only [List.drop_zero, Int.toNat_natCast, Nat.sub_zero]; exact take_tw _ l
      have f2 : (l.drop ((((l.takeWhile (· ≠ 46)).length + 1 : Nat) : Int)).toNat).take (l.length - ((((l.takeWhile (· ≠ 46)).length + 1 : Nat) : Int)).toNat) = partF l := by
        rw [Int.toNat_natCast, List.take_of_length_le (by simp)]
        unfold partF
        rw [← drop_tw, List.drop_drop]
      rw [f1, f2, decide_eq_true hin]
    · have h : decide (Lib.indexByte l 46 ≥ 0) = false := h
      rw [hidx] at h
      have := of_decide_eq_false h
      omega
  · rw [if_neg hin] at hidx
    obtain ⟨g1, g2⟩ := tw_none l hin
    refine And.intro (fun h => ?_) (fun _ => ?_)
    · have h : decide (Lib.indexByte l 46 ≥ 0) = true := h
      rw [hidx] at h
      cases h
    · rw [g1, g2, decide_eq_false hin]
      exact fun ρ S w' hi => ⟨rfl, hi.below⟩
end Go.Proofs.YtfjkajlkehjnnaaGreatDoor
