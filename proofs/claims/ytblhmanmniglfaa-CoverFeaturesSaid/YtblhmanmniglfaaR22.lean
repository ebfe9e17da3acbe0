/- The law CoverFeatures. -/
import Derived.Test.YtblhmanmniglfaaR21
import Derived.ChangeKeysEq
import Derived.ProofKit
set_option maxRecDepth 100000
set_option linter.unusedVariables false
namespace Go.Eng
open Go Go.RowKit
theorem MemOk.cnd {st : St} {ρ : Nat → Value} {S : Nat → Prop} {w : World} (hm : MemOk st ρ S w) (id : Nat) {L : List (Nat × Bool)} {α : Type} [inh : Inhabited α] {sz : Nat} {enc : α → List DV} {xs : List α} (hid : Nat.blt id st.ch.length = true) (hc : chGet st.ch id = .cnd L α inh sz enc xs) (hL : holds st.bs L) : Rd w (ρ id) sz enc xs := by
  have := hm.ok id (blt_lt hid)
  rw [hc] at this
  exact DRep.mono (fun b hb => hm.lt b hb) (fun _ _ => rfl) (this hL)
end Go.Eng
namespace Go.Proofs.Ytblhmanmniglfaa
open Go Go.Eng Go.RowKit

theorem eqg46 : Try.prog.eqGuardType Try.prog.depth 46 = false := by kernel_rfl
theorem eq46 (a b c d : Int) (w : World) : (Op.equalIn 10000 46 (.agg [.int .u8 a, .int .u8 b, .int .u8 c, .int .u8 d].toArray) (.agg [.int .u8 a, .int .u8 b, .int .u8 c, .int .u8 d].toArray)).run Try.prog w = .ok true w := by
  obtain ⟨i, hi⟩ : ∃ i, Try.prog.info? 5 = some i := ⟨_, rfl⟩
  rw [show (10000 : Nat) = 9999 + 1 from rfl, run_equalIn_array (n := 4) (e := 5) w 9999 _ _ Try.underlying46 hi, show Try.prog.cellsOf 5 = 1 by kernel_rfl]
  have q : ∀ (x : Int) (w : World), (Op.equalIn 9999 5 (.int .u8 x) (.int .u8 x)).run Try.prog w = .ok true w := fun x w => by
    rw [run_equalIn_int w 9998 5 .u8 .u8 x x Try.underlying5]
    simp
  show (Op.eqItems 9999 5 1 _ _ [0, 1, 2, 3]).run Try.prog w = _
  simp [Op.eqItems, part, isAgg, run_underlying Try.underlying5, q]
theorem ks_len {b : List Int} (hB : Byt b) (a L : Int) (i : Nat) (h : i < ((featX b a L).getD []).length) : (nth ((featX b a L).getD []) i).ks.length ≤ 65535 := by
  have key : ∀ l, featX b a L = some l → ∀ f ∈ l, f.ks.length ≤ 65535 := fun l hl f hf => by
    unfold featX at hl
    split at hl
    · cases hl
    split at hl
    · cases hl
    split at hl
    · have hl := Option.some.inj hl
      rw [← hl] at hf
      obtain ⟨q, _, rfl⟩ := List.mem_map.1 hf
      show (ksF (rowW b (fT b a q))).length ≤ 65535
      unfold ksF
      have h1 := compact_len ((rowW b (fT b a q)).mergeSort fun x y => decide (x ≤ y))
      rw [List.length_mergeSort, rowW_len] at h1
      have := w2_range (hB.drop (fT b a q).toNat) 2
      omega
    · cases hl
  cases hx : featX b a L with
  | none => rw [hx] at h; exact absurd h (Nat.not_lt_zero _)
  | some l =>
    rw [hx] at h
    refine key l hx _ ?_
    show nth l i ∈ l
    have h : i < l.length := h
    have : nth l i = l[i] := by unfold nth; rw [List.getD_eq_getElem?_getD, List.getElem?_eq_getElem h]; rfl
    rw [this]
    exact List.getElem_mem _
theorem feats_len {b : List Int} (hB : Byt b) (a L : Int) : ((featX b a L).getD []).length ≤ 65535 := by
  have key : ∀ l, featX b a L = some l → l.length ≤ 65535 := fun l hl => by
    unfold featX at hl
    split at hl
    · cases hl
    split at hl
    · cases hl
    split at hl
    · have hl := Option.some.inj hl
      rw [← hl, List.length_map, List.length_range]
      have := w2_range (hB.drop a.toNat) 0
      unfold fN
      omega
    · cases hl
  cases hx : featX b a L with
  | none => exact Nat.zero_le _
  | some l => exact key l hx
theorem feats_c (b : List Int) (a L : Int) (hB : Byt b) (ha : IntKind.i64.wrap a = a) (v : Value) (w : World) (hv : Rd w v 1 bE b) :
    Calls Try.prog 6 #[v, .int .i64 a, .int .i64 L] w fun e w' => e = .returned (.bool true) ∧ Below w.heap.size w w' := by
  refine calls_exec (cf := cf) cfok (fn := Try.f6) Try.func6 rfl [.sl 0, .v (.int .i64 a), .v (.int .i64 L)] [.rd Int inferInstance 1 bE b] (ρ := fun _ => v) (· < w.heap.size) rfl rfl rfl (by simp [svOkL, svOk]) (memRd (fun _ h => h) ⟨hv, trivial⟩) ?_
  refine And.intro (fun h => ?_) (fun h => ?_)
  · refine Or.inl ⟨.bool true, fun ρ S w hm => works_c w, ?_⟩
    exact fun ρ S w' hi => ⟨rfl, hi.below⟩
  have hb : b.length ≤ 3000 := by
    have : ¬ ((b.length : Nat) : Int) > 3000 := of_decide_eq_false h
    omega
  refine Or.inr (lcall_rep1 (.ptr (rdD b)) (fun ρ S w hm => open_c b _ w S hm.lt (by omega) (hm.rdS 0 rfl rfl)) ?_)
  obtain ⟨l, hl⟩ : ∃ l, l = (featX b a L).getD [] := ⟨_, rfl⟩
  obtain ⟨e, he⟩ : ∃ e, e = errF (featX b a L) := ⟨_, rfl⟩
  refine Or.inr (lcall_reps [.sl Feat inferInstance 5 fE l, .v (.int .i64 e)] (fun ρ S w hm => by
    have := feat_c b a L hB hb ha _ w S hm.lt (hm.rpS 1 rfl rfl)
    unfold FeatR at this
    rw [← hl, ← he] at this
    exact this) ?_)
  refine Or.inr (lcall_reps [.sl Feat inferInstance 5 fE l, .v (.int .i64 e)] (fun ρ S w hm => by
    have := reff_c b a L hB hb ha (ks_sel L) _ w S hm.lt (hm.rdS 0 rfl rfl)
    unfold FeatR at this
    rw [← hl, ← he] at this
    exact this) ?_)
  refine And.intro (fun h => ?_) (fun h => ?_)
  · exfalso
    have : (!decide (e = e) || !decide (((l.length : Nat) : Int) = ((l.length : Nat) : Int))) = true := h
    simp at this
  refine ⟨{ i : Nat // i ≤ l.length }, fun i => ⟨73, [⟨7, [], .sl 1⟩, ⟨9, [], .sl 2⟩, ⟨11, [], .v (.int .i64 (i.1 : Nat))⟩], [.rd Int inferInstance 1 bE b, .rd Feat inferInstance 5 fE l, .rd Feat inferInstance 5 fE l], [], dropL nats 3⟩, fun i => l.length - i.1, ⟨[0, 2, 3], ⟨0, Nat.zero_le _⟩, ?_⟩, fun i => ?_⟩
  · exact And.intro (And.intro rfl (And.intro rfl (And.intro rfl trivial))) (And.intro rfl (And.intro rfl (And.intro rfl trivial)))
  obtain ⟨i, hi⟩ := i
  refine And.intro (fun hlt => ?_) (fun hge => ?_)
  · have hlt : i < l.length := by
      have : ((i : Nat) : Int) < ((l.length : Nat) : Int) := of_decide_eq_true hlt
      omega
    have bi : (0 : Int) ≤ ((i : Nat) : Int) ∧ ((i : Nat) : Int) < ((l.length : Nat) : Int) := ⟨by omega, by omega⟩
    refine Or.inl ⟨by kernel_rfl, ?_⟩
    refine And.intro bi ?_
    refine And.intro bi ?_
    refine ⟨_, pure_aggEq (op := .neq) (.inr rfl) (l1 := [.int .u8 (nth l i).a, .int .u8 (nth l i).b, .int .u8 (nth l i).c, .int .u8 (nth l i).d]) (l2 := [.int .u8 (nth l i).a, .int .u8 (nth l i).b, .int .u8 (nth l i).c, .int .u8 (nth l i).d]) true rfl rfl (fun _ => rfl) (fun _ => rfl) eqg46 (fun w => eq46 _ _ _ _ w), ?_⟩
    refine And.intro (fun _ => bi) ?_
    refine And.intro (fun _ => bi) ?_
    have hll := feats_len hB a L
    rw [← hl] at hll
    have hkl := ks_len hB a L i (by rw [← hl]; exact hlt)
    rw [← hl] at hkl
    refine ⟨.bool true, fun g ρ S w hm => ?_, ?_⟩
    · have := samez_c (nth l i).ks (nth l i).ks _ _ w (by omega) (hm.cnd 3 rfl rfl (And.intro g trivial)) (hm.cnd 4 rfl rfl (And.intro g trivial))
      rw [decide_eq_true rfl] at this
      exact this
    refine And.intro (fun h => by cases h) (fun _ => ?_)
    exact ⟨[0, 1, 2], ⟨i + 1, hlt⟩, And.intro (And.intro rfl (And.intro rfl (And.intro (svI (i64_succ i (by omega))) trivial))) (And.intro rfl (And.intro rfl (And.intro rfl trivial))), by show l.length - (i + 1) < l.length - i; omega⟩
  · refine Or.inl ⟨.bool true, fun ρ S w hm => works_c w, ?_⟩
    exact fun ρ S w' hi => ⟨rfl, hi.below⟩
end Go.Proofs.Ytblhmanmniglfaa
