/- The walk of PageKnown: it returns true. -/
import Derived.Test.YtllbgbaahggapaaW16
namespace Go.Proofs.Ytllbgbaahggapaa
open Go Go.Eng Go.RowKit

def edgesP : List Int := [-1, 0, 1, 9, 10, 11, 25, 1099511627751, 1099511627776, 1099511627777, 9223372036854775807, -9223372036854775808]
theorem edgesP_len : edgesP.length = 12 := rfl
theorem goes_l (skip : Int) (ps want : List Int) (pv wv : Value) (w : World) (hlen : ps.length ≤ 9223372036854775807) (hg : goesF skip ps want = true) (hp : Rd w pv 1 iDV ps) (hw : Rd w wv 1 iDV want) :
    Calls Try.prog 15 #[.int .i64 skip, pv, wv] w fun e w' => e = .returned (.bool true) ∧ Below w.heap.size w w' := by
  have := goes_c skip ps want pv wv w hlen hp hw
  rw [hg] at this
  exact this

set_option maxRecDepth 100000 in
set_option maxHeartbeats 1000000 in
theorem known_c (w : World) : Calls Try.prog 6 #[] w fun e w' => e = .returned (.bool true) ∧ Below w.heap.size w w' := by
  refine calls_exec (cf := cf) cfok (fn := Try.f6) Try.func6 rfl [] [] (ρ := fun _ => undef) (· < w.heap.size) rfl rfl rfl (by simp [svOkL]) (memNil fun _ h => h) ?_
  refine Or.inl ⟨.bool true, fun ρ S w' hm => goes_l 3 [1, 1, 1] [0, 0, 5, 0, 0, 18, 0, 1, 5] _ _ w' (by decide) (by decide +kernel) (hm.raw 0 rfl rfl [1, 1, 1] _ rfl rfl rfl (fun _ _ => rfl)) (hm.raw 1 rfl rfl [0, 0, 5, 0, 0, 18, 0, 1, 5] _ rfl rfl rfl (fun _ _ => rfl)), ?_⟩
  refine Or.inr (Or.inl ⟨⟨rfl, trivial⟩, ?_⟩)
  refine Or.inr (Or.inl ⟨⟨rfl, trivial⟩, ?_⟩)
  refine Or.inl ⟨.bool true, fun _ ρ S w' hm => goes_l 3 [0, 2, 0, 1] [0, 0, 5, 0, 0, 15, 0, 1, 5] _ _ w' (by decide) (by decide +kernel) (hm.raw 2 rfl rfl [0, 2, 0, 1] _ rfl rfl rfl (fun _ _ => rfl)) (hm.raw 3 rfl rfl [0, 0, 5, 0, 0, 15, 0, 1, 5] _ rfl rfl rfl (fun _ _ => rfl)), ?_⟩
  refine Or.inr (Or.inl ⟨⟨rfl, trivial⟩, ?_⟩)
  refine Or.inr (Or.inl ⟨⟨rfl, trivial⟩, ?_⟩)
  refine Or.inl ⟨.bool true, fun _ ρ S w' hm => goes_l 6 [1, 1] [0, 0, 5, 0, 1, 5] _ _ w' (by decide) (by decide +kernel) (hm.raw 4 rfl rfl [1, 1] _ rfl rfl rfl (fun _ _ => rfl)) (hm.raw 5 rfl rfl [0, 0, 5, 0, 1, 5] _ rfl rfl rfl (fun _ _ => rfl)), ?_⟩
  refine Or.inr (Or.inl ⟨⟨rfl, trivial⟩, ?_⟩)
  refine Or.inr (Or.inl ⟨⟨rfl, trivial⟩, ?_⟩)
  refine Or.inl ⟨.bool true, fun _ ρ S w' hm => goes_l 5 [1, 1] [0, 0, 5, 0, 0, 20] _ _ w' (by decide) (by decide +kernel) (hm.raw 6 rfl rfl [1, 1] _ rfl rfl rfl (fun _ _ => rfl)) (hm.raw 7 rfl rfl [0, 0, 5, 0, 0, 20] _ rfl rfl rfl (fun _ _ => rfl)), ?_⟩
  refine Or.inl ⟨.bool true, fun _ ρ S w' hm => goes_l 9 [] [] _ _ w' (by decide) (by decide +kernel) (Rd.nil w' 1 iDV) (Rd.nil w' 1 iDV), ?_⟩
  refine Or.inr (Or.inl ⟨⟨rfl, trivial⟩, ?_⟩)
  refine Or.inr (Or.inl ⟨⟨rfl, trivial⟩, ?_⟩)
  refine Or.inl ⟨.bool true, fun _ ρ S w' hm => goes_l 1099511627776 [1, 1] [0, 0, 5, 0, 1, 5] _ _ w' (by decide) (by decide +kernel) (hm.raw 8 rfl rfl [1, 1] _ rfl rfl rfl (fun _ _ => rfl)) (hm.raw 9 rfl rfl [0, 0, 5, 0, 1, 5] _ rfl rfl rfl (fun _ _ => rfl)), ?_⟩
  refine ⟨{ i : Nat // i ≤ 12 }, fun i => ⟨212, [⟨1, [], .v (.bool true)⟩, ⟨2, [], .sl 0⟩, ⟨3, [], .v (.int .i64 i.1)⟩], [.own 2 Int inferInstance 1 iDV edgesP], [], dropL nats 1⟩, fun i => 12 - i.1, ⟨[10], ⟨0, by omega⟩, ?_⟩, fun i => ?_⟩
  · exact And.intro (And.intro rfl (And.intro rfl (And.intro rfl trivial))) (And.intro ⟨rfl, rfl, rfl, rfl, fun y _ => rfl⟩ trivial)
  obtain ⟨i, hi⟩ := i
  refine And.intro (fun hlt => ?_) (fun hge => ?_)
  · have hlt : i < 12 := by have : (i : Int) < (edgesP.length : Int) := of_decide_eq_true hlt
                            rw [edgesP_len] at this; omega
    have bi : (0 : Int) ≤ (i : Int) ∧ (i : Int) < (edgesP.length : Int) := by rw [edgesP_len]; omega
    refine ⟨{ k : Nat // k ≤ 6 }, fun k => ⟨212, [⟨1, [], .v (.bool true)⟩, ⟨2, [], .sl 0⟩, ⟨3, [], .v (.int .i64 i)⟩, ⟨4, [], .v (.int .i64 k.1)⟩], [.own 2 Int inferInstance 1 iDV edgesP], [], dropL nats 1⟩, fun k => 6 - k.1, ⟨[0], ⟨0, by omega⟩, ?_⟩, fun k => ?_⟩
    · exact And.intro (And.intro rfl (And.intro rfl (And.intro rfl (And.intro rfl trivial)))) (And.intro rfl trivial)
    obtain ⟨k, hk⟩ := k
    refine And.intro (fun hlt2 => ?_) (fun hge2 => ?_)
    · have hlt2 : k < 6 := by have : (k : Int) < 6 := of_decide_eq_true hlt2
                              omega
      refine Or.inr (lcall_fresh twoF (fun ρ S w hm => two_c w) ?_)
      refine And.intro ⟨by decide, by decide⟩ ?_
      have hik : (IntKind.i64.wrap ((i : Int) + (k : Int))).tmod (edgesP.length : Int) = (((i + k) % 12 : Nat) : Int) := by
        rw [edgesP_len, i64_id _ (by omega) (by omega), ← Int.natCast_add, Int.tmod_eq_emod_of_nonneg (by omega)]; rfl
      have bik : (0 : Int) ≤ (IntKind.i64.wrap ((i : Int) + (k : Int))).tmod (edgesP.length : Int) ∧ (IntKind.i64.wrap ((i : Int) + (k : Int))).tmod (edgesP.length : Int) < (edgesP.length : Int) := by
        rw [hik, edgesP_len]; omega
      have hz : ((edgesP.length : Nat) : Int) = 0 → False := fun h => by rw [edgesP_len] at h; cases h
      have hnx : SV.v (.int .i64 (IntKind.i64.wrap ((k : Int) + 1))) = SV.v (.int .i64 ((k + 1 : Nat) : Int)) := sv_i64 (i64_succ k (by omega))
      refine And.intro (fun _ => And.intro bi ?_) (fun _ => And.intro (fun _ => And.intro bi ?_) (fun _ => And.intro (fun _ => And.intro bi ?_) (fun _ => And.intro (fun _ => And.intro bi ?_) (fun _ => ?_))))
      all_goals refine And.intro ⟨by decide, by decide⟩ ?_
      all_goals first
        | refine ⟨⟨nth edgesP ((i : Int)).toNat, (nth twoF (Int.toNat 1)).Y, (nth twoF (Int.toNat 1)).W, (nth twoF (Int.toNat 1)).H⟩, rfl, rfl, ?_⟩
        | refine ⟨⟨(nth twoF (Int.toNat 1)).X, nth edgesP ((i : Int)).toNat, (nth twoF (Int.toNat 1)).W, (nth twoF (Int.toNat 1)).H⟩, rfl, rfl, ?_⟩
        | refine ⟨⟨(nth twoF (Int.toNat 1)).X, (nth twoF (Int.toNat 1)).Y, nth edgesP ((i : Int)).toNat, (nth twoF (Int.toNat 1)).H⟩, rfl, rfl, ?_⟩
        | refine ⟨⟨(nth twoF (Int.toNat 1)).X, (nth twoF (Int.toNat 1)).Y, (nth twoF (Int.toNat 1)).W, nth edgesP ((i : Int)).toNat⟩, rfl, rfl, ?_⟩
        | refine ⟨⟨(nth twoF (Int.toNat 1)).X, (nth twoF (Int.toNat 1)).Y, (nth twoF (Int.toNat 1)).W, (nth twoF (Int.toNat 1)).H⟩, rfl, rfl, ?_⟩
      all_goals refine And.intro (fun _ => And.intro bi ?_) (fun _ => ?_)
      all_goals refine And.intro (fun _ => And.intro bi ?_) (fun _ => ?_)
      all_goals refine Or.inl ⟨.bool true, fun ρ S w' hm => places_c _ _ _ [2, 3] _ _ w' (by simp [twoF]) (by simp) (hm.own 1 rfl rfl) (hm.raw 3 rfl rfl [2, 3] _ rfl rfl rfl (fun _ _ => rfl)), ?_⟩
      all_goals refine Or.inr (Or.inl ⟨⟨rfl, trivial⟩, ?_⟩)
      all_goals refine Or.inl ⟨.bool true, fun _ ρ S w' hm => fills_c _ _ _ [2, 3] _ _ w' (by simp) (hm.own 1 rfl rfl) (hm.raw 4 rfl rfl [2, 3] _ rfl rfl rfl (fun _ _ => rfl)), ?_⟩
      all_goals refine And.intro (fun _ => hz) ?_
      all_goals refine And.intro (fun _ => bik) ?_
      all_goals refine Or.inl ⟨.bool true, fun _ ρ S w' hm => law_widths_c _ _ _ ⟨_, _, _, _, _⟩ _ _ w' (hm.own 1 rfl rfl), ?_⟩
      all_goals refine Or.inl ⟨.bool true, fun _ ρ S w' hm => law_widths_c _ _ _ ⟨_, _, _, _, _⟩ _ _ w' (hm.own 1 rfl rfl), ?_⟩
      all_goals refine And.intro (fun h => by cases h) (fun _ => ?_)
      all_goals exact ⟨[0], ⟨k + 1, hlt2⟩, And.intro (And.intro rfl (And.intro rfl (And.intro rfl (And.intro hnx trivial)))) (And.intro rfl trivial), by show 6 - (k + 1) < 6 - k; omega⟩
    · exact ⟨[0], ⟨i + 1, hlt⟩, And.intro (And.intro rfl (And.intro rfl (And.intro (sv_i64 (i64_succ i (by omega))) trivial))) (And.intro rfl trivial), by show 12 - (i + 1) < 12 - i; omega⟩
  · refine Or.inr (lcall_fresh twoF (fun ρ S w hm => two_c w) ?_)
    refine Or.inr (lcall_fresh2 (t := 31) (sz := 5) (enc := Spot.enc) [] (.int .i64 3) (fun ρ S w hm => by
      have := place_a twoF 10 0 [16777216, 1] _ _ w (by decide) (hm.own 1 rfl rfl) (hm.raw 2 rfl rfl [16777216, 1] _ rfl rfl rfl (fun _ _ => rfl))
      rw [place_many] at this
      exact this) ?_)
    obtain ⟨out, hout⟩ := place_fits
    refine Or.inr (lcall_fresh twoF (fun ρ S w hm => two_c w) ?_)
    refine Or.inr (lcall_fresh2 (t := 31) (sz := 5) (enc := Spot.enc) out (.int .i64 0) (fun ρ S w hm => by
      have := place_a twoF 10 0 [196608] _ _ w (by decide) (hm.own 4 rfl rfl) (hm.raw 5 rfl rfl [196608] _ rfl rfl rfl (fun _ _ => rfl))
      rw [hout] at this
      exact this) ?_)
    refine Or.inr (lcall_fresh twoF (fun ρ S w hm => two_c w) ?_)
    refine Or.inr (lcall_fresh2 (t := 31) (sz := 5) (enc := Spot.enc) [] (.int .i64 3) (fun ρ S w hm => by
      have := place_a twoF 10 0 [196609] _ _ w (by decide) (hm.own 7 rfl rfl) (hm.raw 8 rfl rfl [196609] _ rfl rfl rfl (fun _ _ => rfl))
      rw [place_over] at this
      exact this) ?_)
    refine Or.inr (lcall_fresh twoF (fun ρ S w hm => two_c w) ?_)
    refine Or.inr (lcall_fresh2 (t := 2) (sz := 1) (enc := iDV) [] (.int .i64 3) (fun ρ S w hm => by
      have := widths_c twoF 10 0 ⟨0, 0, 65535, 0, 5⟩ 4 _ w (hm.own 10 rfl rfl)
      rw [width_last] at this
      exact this) ?_)
    refine ⟨Frame, inferInstance, Frame.enc, ⟨0, 0, 0, 0⟩, rfl, by decide, by decide, by decide, rfl, ?_⟩
    refine Or.inr (lcall_fresh2 (t := 31) (sz := 5) (enc := Spot.enc) [] (.int .i64 2) (fun ρ S w hm => by
      have := place_a (List.replicate 65 ⟨0, 0, 0, 0⟩) 10 0 [] _ _ w (by decide) (hm.own 12 rfl rfl) (Rd.nil w 1 iDV)
      rw [place_65] at this
      exact this) ?_)
    refine Or.inl ⟨.bool true, fun _ ρ S w' hm => places_c [] 1 1 [] _ _ w' (by decide) (by decide) (Rd.nil w' 4 Frame.enc) (Rd.nil w' 1 iDV), ?_⟩
    refine Or.inr (Or.inl ⟨⟨rfl, trivial⟩, ?_⟩)
    refine Or.inr (lcall_fresh twoF (fun ρ S w hm => two_c w) ?_)
    refine Or.inr (Or.inl ⟨⟨rfl, trivial⟩, ?_⟩)
    refine Or.inl ⟨.bool true, fun _ ρ S w' hm => places_c twoF 10 0 [1, -1] _ _ w' (by decide) (by decide) (hm.own 14 rfl rfl) (hm.raw 15 rfl rfl [1, -1] _ rfl rfl rfl (fun _ _ => rfl)), ?_⟩
    refine Or.inl ⟨.bool true, fun _ ρ S w' hm => works_c w', ?_⟩
    exact fun ρ S w' hi => ⟨rfl, hi.below⟩
end Go.Proofs.Ytllbgbaahggapaa
