/- calamuslaw17.AttachKerns. -/
import Derived.Test.YtaiapnemlnmeiaaT17
namespace Go.Proofs.Ytaiapnemlnmeiaa
open Go Go.Eng Go.RowKit

theorem advL_range {adv : List Int} (h : U16L adv) (g : Int) (hg : 0 ≤ g) : 0 ≤ advL adv g ∧ advL adv g ≤ 65535 := by
  unfold advL
  split
  · decide
  · exact h.nth (by omega)
set_option maxHeartbeats 1000000 in
theorem lawKerns_c (k : List Kern) (l adv : List Int) (hkx : ∀ q ∈ k, -32768 ≤ q.x ∧ q.x ≤ 32767) (hl : U16L l) (ha : U16L adv) (v u t : Value) (w : World) (hv : Rd w v 3 keE k) (hu : Rd w u 1 hE l) (ht : Rd w t 1 hE adv) :
    Calls Try.prog 4 #[v, u, t] w fun e w' => e = .returned (.bool true) ∧ Below w.heap.size w w' := by
  refine calls_exec (cf := cf) cfok (fn := Try.f4) Try.func4 rfl [.sl 0, .sl 1, .sl 2] [.rd Kern inferInstance 3 keE k, .rd Int inferInstance 1 hE l, .rd Int inferInstance 1 hE adv] (ρ := fun i => match i with | 0 => v | 1 => u | _ => t) (· < w.heap.size) rfl rfl rfl (by simp [svOkL, svOk]) (memRd (fun _ h => h) ⟨hv, hu, ht, trivial⟩) ?_
  refine And.intro (fun h => ?_) (fun hlen => ?_)
  · refine Or.inl ⟨.bool true, fun ρ S w' hm => works_c w', ?_⟩
    exact fun ρ S w' hi => ⟨rfl, hi.below⟩
  have hlen : ((decide ((k.length : Int) > 300) || decide ((l.length : Int) > 300)) || decide ((adv.length : Int) > 300)) = false := hlen
  rw [Bool.or_eq_false_iff, Bool.or_eq_false_iff, decide_eq_false_iff_not, decide_eq_false_iff_not, decide_eq_false_iff_not] at hlen
  have hk : KernsB k := ⟨by omega, hkx⟩
  have hll : l.length ≤ 300 := by omega
  obtain ⟨hol, hnth⟩ := kernApply (k := k) hl ha
  refine Or.inr (lcall_fresh2 (applyF (fK k adv) l) (.int .i64 0) (fun ρ S w' hm => apply_c (fK k adv) l (fKOk hk ha) hl (by omega) _ _ w' (fontMk (f := fK k adv) (hm.rd 2 rfl rfl) DRep.nil DRep.nil DRep.nil DRep.nil (hm.to 40 (.sl 4) (.sl Lookup inferInstance 4 lkE (fK k adv).poss) rfl ?_) (hm.to 40 (.sl 6) (.sl Feature inferInstance 5 feE (fK k adv).pfeats) rfl ?_)) (hm.rd 1 rfl rfl)) ?_)
  · repeat (first | exact rfl | exact trivial | exact fun _ _ => rfl | refine And.intro ?_ ?_)
  · repeat (first | exact rfl | exact trivial | exact fun _ _ => rfl | refine And.intro ?_ ?_)
  refine And.intro (fun hb => ?_) (fun _ => ?_)
  · have hb : (!decide (((applyF (fK k adv) l).length : Int) = (l.length : Int))) = true := hb
    rw [hol] at hb
    simp at hb
  refine ⟨{ i : Nat // i ≤ l.length }, fun i => ⟨118, [⟨0, [], .sl 0⟩, ⟨1, [], .sl 1⟩, ⟨7, [], .bx 7 0⟩, ⟨8, [], .sl 8⟩, ⟨10, [], .v (.int .i64 i.1)⟩], [.rd Kern inferInstance 3 keE k, .rd Int inferInstance 1 hE l, .rd Int inferInstance 1 hE adv, .dead, .dead, .dead, .dead, .bx 30 [.v (.int .u16 0), .v (.int .i16 0), .v (.int .i16 0), .sl 2, .v (.slice none 0 0), .v (.slice none 0 0), .v (.slice none 0 0), .v (.slice none 0 0), .sl 4, .sl 6], .own 38 Place inferInstance 4 plE (applyF (fK k adv) l)], [], dropL nats 9⟩, fun i => l.length - i.1,
    ⟨[0, 1, 2, 3, 4, 5, 6, 7, 8], ⟨0, by omega⟩, ?_⟩, fun i => ?_⟩
  · exact And.intro (And.intro (rfl) (And.intro (rfl) (And.intro (rfl) (And.intro (rfl) (And.intro (rfl) trivial))))) (And.intro (rfl) (And.intro (rfl) (And.intro (rfl) (And.intro (trivial) (And.intro (trivial) (And.intro (trivial) (And.intro (trivial) (And.intro (⟨rfl, rfl⟩) (And.intro (rfl) trivial)))))))))
  obtain ⟨i, hi⟩ := i
  refine And.intro (fun hlt => ?_) (fun hge => ?_)
  · have hlt : i < l.length := by have : (i : Int) < (l.length : Int) := of_decide_eq_true hlt
                                  omega
    have hg := hl.nth hlt
    have hval := hnth i hlt
    have hadv := advL_range ha (nth l i) hg.1
    have hw32 : IntKind.i32.wrap (advL adv (nth l i)) = advL adv (nth l i) := by rw [IntKind.wrap_i32]; omega
    have hw1 : IntKind.i64.wrap ((i : Int) + 1) = (i : Int) + 1 := i64_id _ (by omega) (by omega)
    refine Or.inl ⟨by kernel_rfl, ?_⟩
    refine And.intro (show (0 : Int) ≤ (i : Int) ∧ (i : Int) < (l.length : Int) from ⟨by omega, by omega⟩) ?_
    refine ⟨.int .u16 (advL adv (nth l i)), fun ρ S w hm => advance2_c adv (nth l i) hg.1 hg.2 _ _ _ _ _ _ _ _ _ _ w (hm.rd 2 rfl rfl), ?_⟩
    refine ⟨{ j : Nat // j ≤ k.length ∧ idxF (kernP l i (i + 1)) k 0 = idxF (kernP l i (i + 1)) (k.drop j) j }, fun j => ⟨118, [⟨0, [], .sl 0⟩, ⟨1, [], .sl 1⟩, ⟨7, [], .bx 7 0⟩, ⟨8, [], .sl 8⟩, ⟨10, [], .v (.int .i64 i)⟩, ⟨11, [], .v (.int .i32 (IntKind.i32.wrap (advL adv (nth l i))))⟩, ⟨12, [], .v (.int .i64 j.1)⟩], [.rd Kern inferInstance 3 keE k, .rd Int inferInstance 1 hE l, .rd Int inferInstance 1 hE adv, .dead, .dead, .dead, .dead, .bx 30 [.v (.int .u16 0), .v (.int .i16 0), .v (.int .i16 0), .sl 2, .v (.slice none 0 0), .v (.slice none 0 0), .v (.slice none 0 0), .v (.slice none 0 0), .sl 4, .sl 6], .own 38 Place inferInstance 4 plE (applyF (fK k adv) l)], [], dropL nats 9⟩, fun j => k.length - j.1,
      ⟨[0, 1, 2, 3, 4, 5, 6, 7, 8], ⟨0, by omega, rfl⟩, ?_⟩, fun j => ?_⟩
    · exact And.intro (And.intro (rfl) (And.intro (rfl) (And.intro (rfl) (And.intro (rfl) (And.intro (rfl) (And.intro (rfl) (And.intro (rfl) trivial))))))) (And.intro (rfl) (And.intro (rfl) (And.intro (rfl) (And.intro (trivial) (And.intro (trivial) (And.intro (trivial) (And.intro (trivial) (And.intro (⟨rfl, rfl⟩) (And.intro (rfl) trivial)))))))))
    obtain ⟨j, hj, hall⟩ := j
    refine And.intro (fun hc => ?_) (fun hc => ?_)
    · have hc : (decide ((j : Int) < (k.length : Int)) && decide (IntKind.i64.wrap ((i : Int) + 1) < (l.length : Int))) = true := hc
      rw [hw1, Bool.and_eq_true, decide_eq_true_iff, decide_eq_true_iff] at hc
      have hjk : j < k.length := by omega
      rw [idxF_drop _ k j hjk] at hall
      refine Or.inl ⟨by kernel_rfl, ?_⟩
      refine And.intro (show (0 : Int) ≤ (j : Int) ∧ (j : Int) < (k.length : Int) from ⟨by omega, by omega⟩) ?_
      refine And.intro (show (0 : Int) ≤ (i : Int) ∧ (i : Int) < (l.length : Int) from ⟨by omega, by omega⟩) ?_
      refine And.intro (fun _ => show (0 : Int) ≤ (j : Int) ∧ (j : Int) < (k.length : Int) from ⟨by omega, by omega⟩) ?_
      refine And.intro (fun _ => show (0 : Int) ≤ IntKind.i64.wrap ((i : Int) + 1) ∧ IntKind.i64.wrap ((i : Int) + 1) < (l.length : Int) from ⟨by omega, by omega⟩) ?_
      have hx : ∀ x : Bool, (decide ((nth k j).a = nth l i) && decide ((nth k j).b = nth l (IntKind.i64.wrap ((i : Int) + 1)).toNat)) = x → kernP l i (i + 1) (nth k j) = x := fun x hx => by
        rw [hw1] at hx
        exact hx
      refine And.intro (fun hb => ?_) (fun hb => ?_)
      · have hb := hx true hb
        rw [if_pos hb] at hall
        refine And.intro (show (0 : Int) ≤ (j : Int) ∧ (j : Int) < (k.length : Int) from ⟨by omega, by omega⟩) ?_
        have hxr := hkx (nth k j) (nth_mem hjk)
        have hW : IntKind.i32.wrap (IntKind.i32.wrap (advL adv (nth l i)) + IntKind.i32.wrap (nth k j).x) = kw k adv l i := by
          unfold kw
          rw [if_neg (by omega), hall, if_neg (by omega), hw32, Int.toNat_natCast]
          simp only [IntKind.wrap_i32]
          omega
        refine And.intro (show (0 : Int) ≤ (i : Int) ∧ (i : Int) < ((applyF (fK k adv) l).length : Int) from ⟨by omega, by omega⟩) ?_
        refine ⟨_, pure_aggEq (op := .neq) (.inr rfl) (l1 := [.int .i32 (kw k adv l i), .int .i64 (-1), .int .i32 0, .int .i32 0]) (l2 := [.int .i32 (kw k adv l i), .int .i64 (-1), .int .i32 0, .int .i32 0]) true rfl rfl (fun ρ => by
          show Value.agg #[.int .i32 (nth (applyF (fK k adv) l) i).adv, .int .i64 (nth (applyF (fK k adv) l) i).on, .int .i32 (nth (applyF (fK k adv) l) i).x, .int .i32 (nth (applyF (fK k adv) l) i).y] = _
          rw [hval]) (fun ρ => by
          show Value.agg #[.int .i32 (IntKind.i32.wrap (IntKind.i32.wrap (advL adv (nth l i)) + IntKind.i32.wrap (nth k j).x)), .int .i64 (-1), .int .i32 0, .int .i32 0] = _
          rw [hW]) Try.eqGuardType38 (fun w => eq38 _ _ _ _ w), ?_⟩
        refine And.intro (fun h => by cases h) (fun _ => ?_)
        exact ⟨[0, 1, 2, 3, 4, 5, 6, 7, 8], ⟨i + 1, hlt⟩, And.intro (And.intro (rfl) (And.intro (rfl) (And.intro (rfl) (And.intro (rfl) (And.intro (svI (i64_succ i (by omega))) trivial))))) (And.intro (rfl) (And.intro (rfl) (And.intro (rfl) (And.intro (trivial) (And.intro (trivial) (And.intro (trivial) (And.intro (trivial) (And.intro (⟨rfl, rfl⟩) (And.intro (rfl) trivial))))))))), by show _ - (i + 1) < _ - i; omega⟩
      · have hb := hx false hb
        rw [if_neg (fun h => by rw [hb] at h; cases h)] at hall
        exact ⟨[0, 1, 2, 3, 4, 5, 6, 7, 8], ⟨j + 1, hjk, hall⟩, And.intro (And.intro (rfl) (And.intro (rfl) (And.intro (rfl) (And.intro (rfl) (And.intro (rfl) (And.intro (rfl) (And.intro (svI (i64_succ j (by omega))) trivial))))))) (And.intro (rfl) (And.intro (rfl) (And.intro (rfl) (And.intro (trivial) (And.intro (trivial) (And.intro (trivial) (And.intro (trivial) (And.intro (⟨rfl, rfl⟩) (And.intro (rfl) trivial))))))))), by show _ - (j + 1) < _ - j; omega⟩
    have hc : (decide ((j : Int) < (k.length : Int)) && decide (IntKind.i64.wrap ((i : Int) + 1) < (l.length : Int))) = false := hc
    rw [hw1] at hc
    have hW : IntKind.i32.wrap (advL adv (nth l i)) = kw k adv l i := by
      unfold kw
      rw [hw32]
      by_cases e : i + 1 = l.length
      · rw [if_pos e]
      · have hjk : j = k.length := by
          rw [decide_eq_true (by omega : (i : Int) + 1 < (l.length : Int)), Bool.and_true, decide_eq_false_iff_not] at hc
          omega
        subst hjk
        rw [List.drop_length] at hall
        rw [if_neg e, hall, if_pos (by show (-1 : Int) < 0; decide)]
    refine And.intro (show (0 : Int) ≤ (i : Int) ∧ (i : Int) < ((applyF (fK k adv) l).length : Int) from ⟨by omega, by omega⟩) ?_
    refine ⟨_, pure_aggEq (op := .neq) (.inr rfl) (l1 := [.int .i32 (kw k adv l i), .int .i64 (-1), .int .i32 0, .int .i32 0]) (l2 := [.int .i32 (kw k adv l i), .int .i64 (-1), .int .i32 0, .int .i32 0]) true rfl rfl (fun ρ => by
      show Value.agg #[.int .i32 (nth (applyF (fK k adv) l) i).adv, .int .i64 (nth (applyF (fK k adv) l) i).on, .int .i32 (nth (applyF (fK k adv) l) i).x, .int .i32 (nth (applyF (fK k adv) l) i).y] = _
      rw [hval]) (fun ρ => by
      show Value.agg #[.int .i32 (IntKind.i32.wrap (advL adv (nth l i))), .int .i64 (-1), .int .i32 0, .int .i32 0] = _
      rw [hW]) Try.eqGuardType38 (fun w => eq38 _ _ _ _ w), ?_⟩
    refine And.intro (fun h => by cases h) (fun _ => ?_)
    exact ⟨[0, 1, 2, 3, 4, 5, 6, 7, 8], ⟨i + 1, hlt⟩, And.intro (And.intro (rfl) (And.intro (rfl) (And.intro (rfl) (And.intro (rfl) (And.intro (svI (i64_succ i (by omega))) trivial))))) (And.intro (rfl) (And.intro (rfl) (And.intro (rfl) (And.intro (trivial) (And.intro (trivial) (And.intro (trivial) (And.intro (trivial) (And.intro (⟨rfl, rfl⟩) (And.intro (rfl) trivial))))))))), by show _ - (i + 1) < _ - i; omega⟩
  refine Or.inl ⟨.bool true, fun ρ S w' hm => works_c w', ?_⟩
  exact fun ρ S w' hi => ⟨rfl, hi.below⟩
end Go.Proofs.Ytaiapnemlnmeiaa
