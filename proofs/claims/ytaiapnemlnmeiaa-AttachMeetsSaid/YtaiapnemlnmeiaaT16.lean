/- calamuslaw17.AttachPens. -/
import Derived.Test.YtaiapnemlnmeiaaT15
import Derived.WalkKit
import Derived.ProofKit
import Derived.Laws.StructEq
namespace Go.Proofs.Ytaiapnemlnmeiaa
open Go Go.Eng Go.RowKit

theorem eq45 (a b c d e f : Int) (w : World) : (Op.equalIn 10000 45 (.agg #[.int .u16 a, .int .i64 b, .int .i64 c, .int .i32 d, .int .i32 e, .int .i32 f]) (.agg #[.int .u16 a, .int .i64 b, .int .i64 c, .int .i32 d, .int .i32 e, .int .i32 f])).run Try.prog w = .ok true w := by
  have u2 := Try.underlying22
  have a2 := Try.isAgg22
  have z2 := Try.sizeOf22
  have u3 := Try.underlying3
  have a3 := Try.isAgg3
  have z3 := Try.sizeOf3
  have u4 := Try.underlying21
  have a4 := Try.isAgg21
  have z4 := Try.sizeOf21
  have hS : Try.prog.underlying 45 = some (.struct (Try.prog.fieldsOf 45)) := by kernel_rfl
  rw [show (10000 : Nat) = 9999 + 1 from rfl, run_equalIn_agg w 9999 45 _ _ hS Try.stoodInHeld45]
  simp only [Program.fieldsOf, Try.underlying45]
  go_simp
theorem eq38 (b c d e : Int) (w : World) : (Op.equalIn 10000 38 (.agg #[.int .i32 b, .int .i64 c, .int .i32 d, .int .i32 e]) (.agg #[.int .i32 b, .int .i64 c, .int .i32 d, .int .i32 e])).run Try.prog w = .ok true w := by
  have u3 := Try.underlying3
  have a3 := Try.isAgg3
  have z3 := Try.sizeOf3
  have u4 := Try.underlying21
  have a4 := Try.isAgg21
  have z4 := Try.sizeOf21
  have hS : Try.prog.underlying 38 = some (.struct (Try.prog.fieldsOf 38)) := by kernel_rfl
  rw [show (10000 : Nat) = 9999 + 1 from rfl, run_equalIn_agg w 9999 38 _ _ hS Try.stoodInHeld38]
  simp only [Program.fieldsOf, Try.underlying38]
  go_simp

def mkP (a : Int) : Place := ⟨a, -1, 7, 9⟩
theorem nth_map {α β : Type} [Inhabited α] [Inhabited β] (f : α → β) (l : List α) (i : Nat) (h : i < l.length) : nth (l.map f) i = f (nth l i) := by
  unfold nth
  rw [List.getD_eq_getElem?_getD, List.getD_eq_getElem?_getD, List.getElem?_map, List.getElem?_eq_getElem h]
  rfl
theorem take_map1 {α β : Type} [Inhabited α] (f : α → β) (l : List α) (i : Nat) (h : i < l.length) : (l.take (i + 1)).map f = (l.take i).map f ++ [f (nth l i)] := by
  rw [List.take_add_one, List.map_append]
  unfold nth
  rw [List.getD_eq_getElem?_getD, List.getElem?_eq_getElem h]
  rfl
theorem glF_nth (l : List Place) (put : List Int) : ∀ k, k ≤ l.length → ∀ i, i < k → nth (glF l put k) i = glP l put (drF l put i) i
  | 0, _, i, hi => by omega
  | k + 1, hk, i, hi => by
    unfold glF
    by_cases e : i = k
    · subst e
      rw [nth_set _ (by rw [glF_len]; omega)]
    · rw [nth_set_ne _ e]
      exact glF_nth l put k (by omega) i (by omega)
theorem pensOrg {l : List Int} (hl : l.length ≤ 300) (h : ∀ i, i < l.length → -1000000 ≤ nth l i ∧ nth l i ≤ 1000000) (back : Bool) : OrgOk (l.map mkP) back := by
  have hpen : ∀ j, j ≤ (l.map mkP).length → -(1000000 * (j : Int)) ≤ penF (l.map mkP) back j ∧ penF (l.map mkP) back j ≤ 1000000 * (j : Int) := by
    intro j
    induction j with
    | zero => intro _; simp [penF]
    | succ j ih =>
      intro hj
      have h1 := ih (by omega)
      have h2 : rowJ (l.map mkP).length back j < l.length := by have := rowJ_lt (n := (l.map mkP).length) (back := back) (j := j) (by omega); rw [List.length_map] at this ⊢; exact this
      have h3 := h _ h2
      unfold penF
      rw [nth_map _ _ _ h2]
      show _ ≤ _ + nth l _ ∧ _ + nth l _ ≤ _
      omega
  have hlen : (l.map mkP).length = l.length := List.length_map _
  have hpen32 : ∀ j, j ≤ (l.map mkP).length → I32 (penF (l.map mkP) back j) := fun j hj => by
    have := hpen j hj
    unfold I32
    omega
  have hdr : ∀ put D i, i < l.length → drE (l.map mkP) put D i = ⟨nth put i, 0⟩ := fun put D i hi => by
    unfold drE
    rw [nth_map _ _ _ hi, if_neg (by show ¬ (-1 : Int) ≥ 0; decide)]
  refine ⟨fun i hi => ?_, fun i hi => ?_, hpen32, fun i hi => ?_, fun i hi => ?_⟩
  · rw [nth_map _ _ _ (by omega)]
    show (-1 : Int) ≤ -1 ∧ (-1 : Int) < i
    omega
  · rw [nth_map _ _ _ (by omega)]
    have := h i (by omega)
    refine ⟨?_, ⟨by show _ ≤ (7 : Int); decide, by show (7 : Int) ≤ _; decide⟩, ⟨by show _ ≤ (9 : Int); decide, by show (9 : Int) ≤ _; decide⟩⟩
    show I32 (nth l i)
    unfold I32; omega
  · rw [hdr _ _ _ (by omega)]
    exact ⟨putF_I32 hpen32 _ (Nat.le_refl _) i hi, ⟨by show _ ≤ (0 : Int); decide, by show (0 : Int) ≤ _; decide⟩⟩
  · rw [hdr _ _ _ (by omega)]
    show I32 (nth (putF (l.map mkP) back (l.map mkP).length) i - nth (putF (l.map mkP) back (l.map mkP).length) i)
    rw [Int.sub_self]; unfold I32; decide
theorem pensGl {l : List Int} (back : Bool) (i : Nat) (hi : i < l.length) : nth (originsF (l.map mkP) back) i = ⟨0, i, i + 1, nth l i, 0, 0⟩ := by
  unfold originsF
  rw [glF_nth _ _ _ (Nat.le_refl _) i (by rw [List.length_map]; exact hi)]
  unfold glP drE
  rw [nth_map _ _ _ hi, if_neg (by show ¬ (-1 : Int) ≥ 0; decide)]
  show (⟨0, i, i + 1, nth l i, nth _ i - nth _ i, 0⟩ : Gl) = _
  rw [Int.sub_self]

theorem lawPens_c (l : List Int) (rtl : Bool) (v : Value) (w : World) (hv : Rd w v 1 jE l) : Calls Try.prog 5 #[v, .bool rtl] w fun e w' => e = .returned (.bool true) ∧ Below w.heap.size w w' := by
  refine calls_exec (cf := cf) cfok (fn := Try.f5) Try.func5 rfl [.sl 0, .v (.bool rtl)] [.rd Int inferInstance 1 jE l] (ρ := fun _ => v) (· < w.heap.size) rfl rfl rfl (by simp [svOkL, svOk]) (memRd (fun _ h => h) ⟨hv, trivial⟩) ?_
  refine And.intro (fun h => ?_) (fun hlen => ?_)
  · refine Or.inl ⟨.bool true, fun ρ S w' hm => works_c w', ?_⟩
    exact fun ρ S w' hi => ⟨rfl, hi.below⟩
  have hlen : l.length ≤ 300 := by have : ¬ (l.length : Int) > 300 := of_decide_eq_false hlen
                                   omega
  refine ⟨{ i : Nat // i ≤ l.length ∧ ∀ j, j < i → -1000000 ≤ nth l j ∧ nth l j ≤ 1000000 }, fun i => ⟨76, [⟨0, [], .sl 0⟩, ⟨1, [], .v (.bool rtl)⟩, ⟨5, [], .sl 1⟩, ⟨6, [], .v (.int .i64 i.1)⟩], [.rd Int inferInstance 1 jE l, .own 38 Place inferInstance 4 plE ((l.take i.1).map mkP)], [], dropL nats 2⟩, fun i => l.length - i.1,
    ⟨[0, 1000], ⟨0, by omega, fun j hj => by omega⟩, ?_⟩, fun i => ?_⟩
  · exact And.intro (And.intro (rfl) (And.intro (rfl) (And.intro (rfl) (And.intro (rfl) trivial)))) (And.intro (rfl) (And.intro (rfl) trivial))
  obtain ⟨i, hi, hall⟩ := i
  refine And.intro (fun hlt => ?_) (fun hge => ?_)
  · have hlt : i < l.length := by have : (i : Int) < (l.length : Int) := of_decide_eq_true hlt
                                  omega
    refine And.intro (show (0 : Int) ≤ (i : Int) ∧ (i : Int) < (l.length : Int) from ⟨by omega, by omega⟩) ?_
    refine And.intro (fun _ => show (0 : Int) ≤ (i : Int) ∧ (i : Int) < (l.length : Int) from ⟨by omega, by omega⟩) ?_
    refine And.intro (fun hb => ?_) (fun hb => ?_)
    · refine Or.inl ⟨.bool true, fun ρ S w' hm => works_c w', ?_⟩
      exact fun ρ S w' hi => ⟨rfl, hi.below⟩
    have hb : (decide (nth l i < -1000000) || decide (nth l i > 1000000)) = false := hb
    rw [Bool.or_eq_false_iff, decide_eq_false_iff_not, decide_eq_false_iff_not] at hb
    refine And.intro (show (0 : Int) ≤ (i : Int) ∧ (i : Int) < (l.length : Int) from ⟨by omega, by omega⟩) ?_
    refine ⟨[mkP (nth l i)], And.intro rfl (And.intro rfl (fun y hy => rfl)), ?_, ?_⟩
    · show (((l.take i).map mkP).length + 1) * 24 ≤ 140737488355328
      rw [List.length_map, List.length_take]; omega
    refine ⟨[0, 3], ⟨i + 1, hlt, fun j hj => ?_⟩, And.intro (And.intro (rfl) (And.intro (rfl) (And.intro (rfl) (And.intro (svI (i64_succ i (by omega))) trivial)))) (And.intro (rfl) (And.intro (congrArg (fun z => Chunk.own 38 Place inferInstance 4 plE z) (take_map1 mkP l i hlt).symm) trivial)), by show _ - (i + 1) < _ - i; omega⟩
    by_cases e : j = i
    · subst e; omega
    · exact hall j (by omega)
  have hge : i = l.length := by have : ¬ (i : Int) < (l.length : Int) := of_decide_eq_false hge
                                omega
  subst hge
  have horg := pensOrg hlen hall rtl
  have htk : (l.take l.length).map mkP = l.map mkP := by rw [List.take_length]
  have hol : (originsF (l.map mkP) rtl).length = l.length := by unfold originsF; rw [glF_len, List.length_map]
  refine Or.inr (lcall_fresh2 (originsF (l.map mkP) rtl) (.int .i64 0) (fun ρ S w' hm => by
    have h1 := hm.own 1 rfl rfl
    rw [htk] at h1
    exact origins_c (l.map mkP) rtl horg (by rw [List.length_map]; omega) _ w' h1) ?_)
  refine And.intro (fun hb => ?_) (fun _ => ?_)
  · have hb : (!decide (((originsF (l.map mkP) rtl).length : Int) = (l.length : Int))) = true := hb
    rw [hol] at hb
    simp at hb
  refine ⟨{ i : Nat // i ≤ l.length }, fun i => ⟨76, [⟨0, [], .sl 0⟩, ⟨7, [], .sl 1⟩, ⟨9, [], .v (.int .i64 i.1)⟩], [.rd Int inferInstance 1 jE l, .own 45 Gl inferInstance 6 glE (originsF (l.map mkP) rtl)], [], dropL nats 2⟩, fun i => l.length - i.1,
    ⟨[0, 2], ⟨0, by omega⟩, ?_⟩, fun i => ?_⟩
  · exact And.intro (And.intro (rfl) (And.intro (rfl) (And.intro (rfl) trivial))) (And.intro (rfl) (And.intro (rfl) trivial))
  obtain ⟨i, hi⟩ := i
  refine And.intro (fun hlt => ?_) (fun hge => ?_)
  · have hlt : i < l.length := by have : (i : Int) < ((originsF (l.map mkP) rtl).length : Int) := of_decide_eq_true hlt
                                  omega
    refine Or.inl ⟨by kernel_rfl, ?_⟩
    refine And.intro (show (0 : Int) ≤ (i : Int) ∧ (i : Int) < ((originsF (l.map mkP) rtl).length : Int) from ⟨by omega, by omega⟩) ?_
    refine And.intro (show (0 : Int) ≤ (i : Int) ∧ (i : Int) < (l.length : Int) from ⟨by omega, by omega⟩) ?_
    have hg := pensGl rtl i hlt
    have hw : IntKind.i64.wrap ((i : Int) + 1) = (i : Int) + 1 := i64_id _ (by omega) (by omega)
    refine ⟨_, pure_aggEq (op := .neq) (.inr rfl) (l1 := [.int .u16 0, .int .i64 i, .int .i64 ((i : Int) + 1), .int .i32 (nth l i), .int .i32 0, .int .i32 0]) (l2 := [.int .u16 0, .int .i64 i, .int .i64 ((i : Int) + 1), .int .i32 (nth l i), .int .i32 0, .int .i32 0]) true rfl rfl (fun ρ => by
      show Value.agg #[.int .u16 (nth (originsF (l.map mkP) rtl) i).id, .int .i64 (nth (originsF (l.map mkP) rtl) i).first, .int .i64 (nth (originsF (l.map mkP) rtl) i).last, .int .i32 (nth (originsF (l.map mkP) rtl) i).adv, .int .i32 (nth (originsF (l.map mkP) rtl) i).x, .int .i32 (nth (originsF (l.map mkP) rtl) i).y] = _
      rw [hg]) (fun ρ => by
      show Value.agg #[.int .u16 0, .int .i64 i, .int .i64 (IntKind.i64.wrap ((i : Int) + 1)), .int .i32 (nth l i), .int .i32 0, .int .i32 0] = _
      rw [hw]) Try.eqGuardType45 (fun w => eq45 _ _ _ _ _ _ w), ?_⟩
    refine And.intro (fun h => by cases h) (fun _ => ?_)
    exact ⟨[0, 1], ⟨i + 1, hlt⟩, And.intro (And.intro (rfl) (And.intro (rfl) (And.intro (svI (i64_succ i (by omega))) trivial))) (And.intro (rfl) (And.intro (rfl) trivial)), by show _ - (i + 1) < _ - i; omega⟩
  refine Or.inl ⟨.bool true, fun ρ S w' hm => works_c w', ?_⟩
  exact fun ρ S w' hi => ⟨rfl, hi.below⟩
end Go.Proofs.Ytaiapnemlnmeiaa
