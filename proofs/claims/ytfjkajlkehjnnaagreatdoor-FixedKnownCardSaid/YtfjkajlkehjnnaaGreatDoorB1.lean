/- strings.Builder: its box, written byte by byte and string by string. -/
import Derived.Test.YtfjkajlkehjnnaaGreatDoorCfg
import Derived.Lib.Builder
import Derived.Lib.UnsafeStr
set_option maxRecDepth 100000
namespace Go.Proofs.YtfjkajlkehjnnaaGreatDoor
open Go Go.Eng Go.RowKit

def bE : UInt8 → List DV := fun b => [.v (.int .u8 b.toNat)]
abbrev bys (xs : List UInt8) : Chunk := .own 5 UInt8 inferInstance 1 bE xs
abbrev bld (p : SV) : Chunk := .bx 43 [p, .sl 1]
abbrev bldN : Chunk := .bx 43 [.v (.pointer none), .v (.slice none 0 0)]

section
variable {st : St} {L : List (Nat × Bool)}
theorem bld_at {id : Nat} {p q : SV} {ρ : Nat → Value} {S : Nat → Prop} {w : World} (hm : MemOk st ρ S w) (hc : chGet st.ch id = .bx 43 [p, q]) :
    ∃ b, den ρ (.bx id 0) = .pointer (some ⟨b, 0, none⟩) ∧ w.heap[b]? = some (.cells #[den ρ p, den ρ q] 43 (0, 0)) ∧ w.shape? b = some (43, 2) := by
  have hid : id < st.ch.length := by
    rcases Nat.lt_or_ge id st.ch.length with h | h
    · exact h
    · rw [chGet_out _ _ h] at hc; cases hc
  obtain ⟨b, hb, hg⟩ := (hc ▸ hm.ok id hid : ChunkOk _ _ _ _ (.bx 43 [p, q]) _)
  refine ⟨b, by simp only [den, hb, Nat.add_zero], by simpa [denL] using hg, by simp [World.shape?, hg, denL]⟩

theorem pure_toUnsafe {x : Operand} {id : Nat} {p q : SV} (hx : getV st L x = some (.bx id 0)) (hc : chGet st.ch id = .bx 43 [p, q]) : PureS Tryz.prog st L (.convert 40 92 x) (.bx id 0) := by
  intro ρ S w e o hm hL he ho
  obtain ⟨b, h1, h2, h3⟩ := bld_at hm hc
  have := he x _ hx
  rw [h1] at this ⊢
  have hr := Lib.run_to_unsafe (P := Tryz.prog) w ⟨b, 0, none⟩ Tryz.underlying40 Tryz.underlying92 (j := Tryz.t43) (by kernel_rfl) (by decide) h3 (show (0 : Nat) < 2 by decide)
  simp [execOp, ho, this, hr]
theorem pure_fromUnsafe {x : Operand} {id : Nat} {p q : SV} (hx : getV st L x = some (.bx id 0)) (hc : chGet st.ch id = .bx 43 [p, q]) : PureS Tryz.prog st L (.convert 92 40 x) (.bx id 0) := by
  intro ρ S w e o hm hL he ho
  obtain ⟨b, h1, h2, h3⟩ := bld_at hm hc
  have := he x _ hx
  rw [h1] at this ⊢
  have hr := Lib.run_from_unsafe (P := Tryz.prog) w ⟨b, 0, none⟩ Tryz.underlying92 Tryz.underlying40 (j := Tryz.t43) (by kernel_rfl) h3 (by kernel_rfl)
  simp [execOp, ho, this, hr]
theorem pure_noEscape {x : Operand} {ts : Array TypeId} {s : SV} (hx : getV st L x = some s) : PureS Tryz.prog st L (.call ⟨.value (.func 61), #[x], ts⟩) s := by
  intro ρ S w e o hm hL he ho
  have h1 := he x _ hx
  have h2 := he (.func 61) _ rfl
  have hr := run_callFunc_extern (w := w) (args := #[den ρ s]) Tryz.func61 (by kernel_rfl) (by kernel_rfl) (by kernel_rfl) (e := Extern.AbiNoEscape.same) (by kernel_rfl)
  simp only [den] at h2
  simp [execOp, ho, resolve, h2, Deferred.ofValue, invoke, h1, hr, Lib.run_noEscape]
theorem pure_nilNil {P : Program} {x : Operand} {t g : Nat} (hu : P.underlying t = some (.pointer (P.pointee t))) (hx : getV st L x = some (.v (.pointer none))) : PureQ P st L (.binOp .eql t x (.const (.pointer none)) g) (.bool true) := by
  intro ρ S w e o hm hL he ho
  have e1 := he x _ hx
  have e2 := he (.const (.pointer none)) (.v (.pointer none)) rfl
  simp only [den] at e1 e2
  simp [execOp, ho, e1, e2, eqGuard, run_eql_pointer_nil w t none hu]
theorem pure_same {x y : Operand} {g id : Nat} {p q : SV} (hx : getV st L x = some (.bx id 0)) (hy : getV st L y = some (.bx id 0)) (hc : chGet st.ch id = .bx 43 [p, q]) : PureQ Tryz.prog st L (.binOp .neq 40 x y g) (.bool false) := by
  intro ρ S w e o hm hL he ho
  obtain ⟨b, h1, h2, h3⟩ := bld_at hm hc
  have e1 := he x _ hx
  have e2 := he y _ hy
  rw [h1] at e1 e2
  have hr := Lib.run_neq_ptr_same (P := Tryz.prog) w ⟨b, 0, none⟩ Tryz.underlying40 (j := Tryz.t43) (by kernel_rfl)
  simp [execOp, ho, e1, e2, eqGuard, hr]
end

theorem copy_f : LCall Tryz.prog ⟨0, [], [bldN], [], []⟩ 43 [.bx 0 0] (fun st' s => st'.ch = [.bx 43 [.bx 0 0, .v (.slice none 0 0)]] ∧ s = .tup []) := by
  refine lcall_exec (cf := cf) cfok (fn := Tryz.f43) Tryz.func43 rfl _ _ [.bx 43 [.bx 0 0, .v (.slice none 0 0)]] (.tup []) rfl rfl (by simp [svOkL, svOk]) rfl (And.intro trivial trivial) rfl rfl ?_
  refine ⟨_, pure_nilNil Tryz.underlying40 rfl, ?_⟩
  refine And.intro (fun _ => ?_) (fun h => by cases h)
  refine ⟨_, by simp [svOk], pure_toUnsafe rfl rfl, ?_⟩
  refine ⟨_, by simp [svOk], pure_noEscape rfl, ?_⟩
  refine ⟨_, by simp [svOk], pure_fromUnsafe rfl rfl, ?_⟩
  exact ⟨[0], rfl, rfl, rfl, And.intro (And.intro rfl rfl) trivial, rfl⟩
theorem copy_u (xs : List UInt8) : LCall Tryz.prog ⟨0, [], [bld (.bx 0 0), bys xs], [], []⟩ 43 [.bx 0 0] (fun st' s => st'.ch = [bld (.bx 0 0), bys xs] ∧ s = .tup []) := by
  refine lcall_exec (cf := cf) cfok (fn := Tryz.f43) Tryz.func43 rfl _ _ [bld (.bx 0 0), bys xs] (.tup []) rfl rfl (by simp [svOkL, svOk]) rfl (And.intro trivial (And.intro ⟨Nat.le_refl _, rfl⟩ trivial)) rfl rfl ?_
  refine ⟨_, pure_ptrNil (.inl rfl) Tryz.underlying40 rfl rfl rfl, ?_⟩
  refine And.intro (fun h => by cases h) (fun _ => ?_)
  refine ⟨_, pure_same rfl rfl rfl, ?_⟩
  refine And.intro (fun h => by cases h) (fun _ => ?_)
  exact ⟨[0, 1], rfl, rfl, rfl, And.intro (And.intro rfl rfl) (And.intro rfl trivial), rfl⟩

theorem bys_raw (b : UInt8) : rowsAs ⟨0, [], [], [], []⟩ (.raw 5 1 1 [.v (.int .u8 b.toNat)]) UInt8 inferInstance 1 bE [b] := by
  refine ⟨rfl, rfl, fun y _ => rfl⟩

theorem writeByte_f (b : UInt8) : LCall Tryz.prog ⟨0, [], [bldN], [], []⟩ 18 [.bx 0 0, .v (.int .u8 b.toNat)] (fun st' s => st'.ch = [.bx 43 [.bx 0 0, .sl 1], bys [b]] ∧ s = .v .nilIface) := by
  refine lcall_exec (cf := cf) cfok (fn := Tryz.f18) Tryz.func18 rfl _ _ [.bx 43 [.bx 0 0, .sl 1], bys [b]] (.v .nilIface) rfl rfl (by simp [svOkL, svOk]) rfl (And.intro trivial trivial) rfl rfl ?_
  refine Or.inr (lcall_sub [0] copy_f rfl rfl rfl rfl rfl (And.intro (And.intro rfl rfl) trivial) ?_)
  refine ⟨UInt8, inferInstance, bE, [b], bys_raw b, (show 1 * 1 ≤ 140737488355328 by omega), ?_⟩
  exact ⟨[0, 2], rfl, rfl, rfl, And.intro (And.intro rfl rfl) (And.intro rfl trivial), rfl⟩
section
variable (xs : List UInt8) (b : UInt8) (hl : xs.length + 1 ≤ 140737488355328)
include hl
theorem writeByte_u : LCall Tryz.prog ⟨0, [], [bld (.bx 0 0), bys xs], [], []⟩ 18 [.bx 0 0, .v (.int .u8 b.toNat)] (fun st' s => st'.ch = [.bx 43 [.bx 0 0, .sl 2], .dead, bys (xs ++ [b])] ∧ s = .v .nilIface) := by
  refine lcall_exec (cf := cf) cfok (fn := Tryz.f18) Tryz.func18 rfl _ _ [.bx 43 [.bx 0 0, .sl 2], .dead, bys (xs ++ [b])] (.v .nilIface) rfl rfl (by simp [svOkL, svOk]) rfl (And.intro trivial (And.intro trivial trivial)) rfl rfl ?_
  refine Or.inr (lcall_sub [0, 1] (copy_u xs) rfl rfl rfl rfl rfl (And.intro (And.intro rfl rfl) (And.intro rfl trivial)) ?_)
  refine ⟨[b], bys_raw b, (show (xs.length + 1) * 1 ≤ 140737488355328 by omega), ?_⟩
  exact ⟨[0, 1, 3], rfl, rfl, rfl, And.intro (And.intro rfl rfl) (And.intro trivial (And.intro rfl trivial)), rfl⟩
end

theorem len_bytes (s : ByteArray) : s.data.toList.length = s.size := Array.length_toList
theorem bys_str (s : ByteArray) : rowsStr s UInt8 inferInstance bE s.data.toList := by
  refine ⟨len_bytes s, fun i hi => ?_⟩
  have e : nth s.data.toList i = s.data.toList.getD i 0 := by
    rw [nth_eq _ _ hi, List.getD_eq_getElem?_getD, List.getElem?_eq_getElem hi]; rfl
  rw [e]; rfl

theorem writeString_f (s : ByteArray) (hl : s.size ≤ 140737488355328) : LCall Tryz.prog ⟨0, [], [bldN], [], []⟩ 20 [.bx 0 0, .v (.string s)] (fun st' r => st'.ch = [.bx 43 [.bx 0 0, .sl 1], bys s.data.toList] ∧ r = .tup [.v (.int .i64 s.size), .v .nilIface]) := by
  refine lcall_exec (cf := cf) cfok (fn := Tryz.f20) Tryz.func20 rfl _ _ [.bx 43 [.bx 0 0, .sl 1], bys s.data.toList] (.tup [.v (.int .i64 s.size), .v .nilIface]) rfl rfl (by simp [svOkL, svOk]) rfl (And.intro trivial trivial) rfl rfl ?_
  refine Or.inr (lcall_sub [0] copy_f rfl rfl rfl rfl rfl (And.intro (And.intro rfl rfl) trivial) ?_)
  refine ⟨UInt8, inferInstance, bE, s.data.toList, bys_str s, hl, ?_⟩
  exact ⟨[0, 1], rfl, rfl, rfl, And.intro (And.intro rfl rfl) (And.intro rfl trivial), rfl⟩
section
variable (xs : List UInt8) (s : ByteArray) (hl : xs.length + s.size ≤ 140737488355328)
include hl
theorem writeString_u : LCall Tryz.prog ⟨0, [], [bld (.bx 0 0), bys xs], [], []⟩ 20 [.bx 0 0, .v (.string s)] (fun st' r => st'.ch = [.bx 43 [.bx 0 0, .sl 2], .dead, bys (xs ++ s.data.toList)] ∧ r = .tup [.v (.int .i64 s.size), .v .nilIface]) := by
  have hl' : xs.length + s.data.toList.length ≤ 140737488355328 := by rw [len_bytes]; exact hl
  refine lcall_exec (cf := cf) cfok (fn := Tryz.f20) Tryz.func20 rfl _ _ [.bx 43 [.bx 0 0, .sl 2], .dead, bys (xs ++ s.data.toList)] (.tup [.v (.int .i64 s.size), .v .nilIface]) rfl rfl (by simp [svOkL, svOk]) rfl (And.intro trivial (And.intro trivial trivial)) rfl rfl ?_
  refine Or.inr (lcall_sub [0, 1] (copy_u xs) rfl rfl rfl rfl rfl (And.intro (And.intro rfl rfl) (And.intro rfl trivial)) ?_)
  refine ⟨s.data.toList, bys_str s, hl', ?_⟩
  exact ⟨[0, 1, 2], rfl, rfl, rfl, And.intro (And.intro rfl rfl) (And.intro trivial (And.intro rfl trivial)), rfl⟩
end
end Go.Proofs.YtfjkajlkehjnnaaGreatDoor
