/- What the reference's Widths computes, for every input: the same as page.Widths. -/
import Derived.Test.YtllbgbaahggapaaW9
namespace Go.Proofs.Ytllbgbaahggapaa
open Go Go.Eng Go.RowKit

set_option maxHeartbeats 4000000 in
theorem ref_widths_c (fs : List Frame) (l skip : Int) (a : Spot) (c : Int) (v : Value) (w : World) (hv : Rd w v 4 Frame.enc fs) :
    Calls Try.prog 12 #[v, .int .i64 l, .int .i64 skip, a.val, .int .i64 c] w (WidthsR w (widthsF fs l skip a c)) := by
  refine calls_exec (cf := cf) cfok (fn := Try.f12) Try.func12 rfl [.sl 0, .v (.int .i64 l), .v (.int .i64 skip), a.sv, .v (.int .i64 c)] [.rd Frame inferInstance 4 Frame.enc fs] (ρ := fun _ => v) (· < w.heap.size) rfl rfl rfl (by simp [svOkL, svOk, Spot.sv]) (memRd (fun _ h => h) ⟨hv, trivial⟩) ?_
  refine Or.inl ⟨_, fun ρ S w' hm => ref_right_c fs l _ w' (hm.rd 0 rfl rfl), ?_⟩
  refine Or.inl ⟨_, fun _ ρ S w' hm => in2_c _ _ _ _, ?_⟩
  have hb : (((((((!okF fs l || !inR skip 0 MS) || decide (a.Pg < 0)) || decide (a.Pg ≥ 65536)) || decide (a.F < 0)) || decide (a.F ≥ fs.length)) || decide (c < 0)) || decide (c > 65536)) = true ↔ ¬ AOk fs l skip a c := by
    unfold AOk
    cases h : okF fs l
    · simp
    · cases h2 : inR skip 0 MS
      · simp
      · simp only [Bool.not_true, Bool.false_or, Bool.or_eq_true, decide_eq_true_eq, true_and]
        omega
  refine And.intro (fun hbad => ?_) (fun hgood => ?_)
  · have hbad := hb.1 hbad
    refine fun ρ S w' hi => ?_
    unfold widthsF; rw [if_neg hbad]
    exact ⟨_, rfl, hi.below, Fresh.nil _ _ _ _ _⟩
  have hA : AOk fs l skip a c := by
    have hgood : (((((((!okF fs l || !inR skip 0 MS) || decide (a.Pg < 0)) || decide (a.Pg ≥ 65536)) || decide (a.F < 0)) || decide (a.F ≥ fs.length)) || decide (c < 0)) || decide (c > 65536)) = false := hgood
    by_cases h : AOk fs l skip a c
    · exact h
    · rw [hb.2 h] at hgood; cases hgood
  obtain ⟨hok, hsk, ⟨hp0, hp1⟩, ⟨hf0, hf1⟩, hc0, hc1⟩ := hA
  have hA : AOk fs l skip a c := ⟨hok, hsk, ⟨hp0, hp1⟩, ⟨hf0, hf1⟩, hc0, hc1⟩
  have hok := (okF_iff fs l).1 hok
  have hM := MS_eq
  have hl1 := hok.l1
  have q := hok.fr a.F.toNat (by omega)
  refine Or.inl ⟨by kernel_rfl, ?_⟩
  refine And.intro ⟨hf0, hf1⟩ (And.intro ⟨hf0, hf1⟩ (And.intro ⟨hf0, hf1⟩ ?_))
  refine ⟨_, fun ρ S w' hm => in2_c _ _ _ _, ?_⟩
  have e2 : w64 ((nth fs a.F.toNat).Y + (nth fs a.F.toNat).H) = (nth fs a.F.toNat).Y + (nth fs a.F.toNat).H := i64_id _ (by omega) (by omega)
  have ht : inR a.T (nth fs a.F.toNat).Y (w64 ((nth fs a.F.toNat).Y + (nth fs a.F.toNat).H)) = true ↔ ((nth fs a.F.toNat).Y ≤ a.T ∧ a.T ≤ (nth fs a.F.toNat).Y + (nth fs a.F.toNat).H) := by
    rw [e2]; unfold inR; simp
  refine And.intro (fun hbad => ?_) (fun hgood => ?_)
  · have hbad : (!inR a.T (nth fs a.F.toNat).Y (w64 ((nth fs a.F.toNat).Y + (nth fs a.F.toNat).H))) = true := hbad
    refine fun ρ S w' hi => ?_
    unfold widthsF; rw [if_pos hA, if_neg (fun h => by rw [ht.2 h] at hbad; cases hbad)]
    exact ⟨_, rfl, hi.below, Fresh.nil _ _ _ _ _⟩
  have hgood : (!inR a.T (nth fs a.F.toNat).Y (w64 ((nth fs a.F.toNat).Y + (nth fs a.F.toNat).H))) = false := hgood
  have hT := ht.1 (by simpa using hgood)
  have hW : widthsF fs l skip a c = (match widL fs l c.toNat ⟨a.Pg, a.F.toNat, a.T⟩ [] with | some acc => (acc, 0) | none => ([], 3)) := by
    unfold widthsF; rw [if_pos hA, if_pos hT]; cases widL fs l c.toNat ⟨a.Pg, a.F.toNat, a.T⟩ [] <;> rfl
  rw [hW]
  have eF : ((a.F.toNat : Nat) : Int) = a.F := by omega
  refine ⟨{ x : Nat × S3 × List Int // (x.1 : Int) ≤ c ∧ widL fs l (c.toNat - x.1) x.2.1 x.2.2 = widL fs l c.toNat ⟨a.Pg, a.F.toNat, a.T⟩ [] ∧ x.2.2.length = x.1 ∧ PlOk fs x.2.1 ∧ x.2.1.pg ≤ 65536 },
    fun x => ⟨103, [⟨0, [], .sl 0⟩, ⟨1, [], .v (.int .i64 l)⟩, ⟨4, [], .v (.int .i64 c)⟩, ⟨8, [], .bx 1 0⟩, ⟨12, [], .sl 2⟩, ⟨13, [], .v (.int .i64 x.1.1)⟩], [.rd Frame inferInstance 4 Frame.enc fs, .bx 42 (cellsOf (at' a.P a.L x.1.2.1).sv), .own 2 Int inferInstance 1 iDV x.1.2.2], [], dropL nats 3⟩,
    fun x => c.toNat - x.1.1, ⟨[0, 1, 1000], ⟨(0, ⟨a.Pg, a.F.toNat, a.T⟩, []), ?_⟩, ?_⟩, fun x => ?_⟩
  · exact ⟨by show (0 : Int) ≤ _; omega, rfl, rfl, ⟨by show a.F.toNat < _; omega, by show 0 ≤ a.T; omega, by show a.T ≤ _; omega, hp0, by show a.Pg ≤ _; omega⟩, by show a.Pg ≤ _; omega⟩
  · refine And.intro (And.intro rfl (And.intro rfl (And.intro rfl (And.intro rfl (And.intro rfl (And.intro rfl trivial)))))) (And.intro rfl (And.intro (And.intro rfl ?_) (And.intro rfl trivial)))
    show [SV.v (.int .i64 a.P), SV.v (.int .i64 a.L), SV.v (.int .i64 a.Pg), SV.v (.int .i64 a.F), SV.v (.int .i64 a.T)] =
      [SV.v (.int .i64 a.P), SV.v (.int .i64 a.L), SV.v (.int .i64 a.Pg), SV.v (.int .i64 (a.F.toNat : Int)), SV.v (.int .i64 a.T)]
    rw [eF]
  obtain ⟨⟨k, s, acc⟩, hk, hwl, hlen, hpl, hpg⟩ := x
  simp only at hk hwl hlen hpl hpg
  refine And.intro (fun hlt => ?_) (fun hge => ?_)
  · have hlt : (k : Int) < c := by simpa using hlt
    have hnx := next_ok fs l s hok hpl
    rw [show c.toNat - k = (c.toNat - (k + 1)) + 1 by omega] at hwl
    simp only [widL] at hwl
    refine Or.inl ⟨(at' a.P a.L (nextF fs l s)).val, fun ρ S w' hm => next_c fs l a.P a.L s _ w' hok hpl (hm.rd 0 rfl rfl), ?_⟩
    have hp0' := hpl.p0
    refine And.intro (fun hout => ?_) (fun hin => ?_)
    · have hout : (nextF fs l s).pg ≥ 65536 := of_decide_eq_true (show decide ((nextF fs l s).pg ≥ 65536) = true from hout)
      refine fun ρ S w' hi' => ?_
      rw [← hwl, if_neg (by omega)]
      exact ⟨_, rfl, hi'.below, Fresh.nil _ _ _ _ _⟩
    · have hin : ¬ (nextF fs l s).pg ≥ 65536 := of_decide_eq_false (show decide ((nextF fs l s).pg ≥ 65536) = false from hin)
      rw [if_pos (by omega)] at hwl
      have hnx1 := hnx.1
      refine And.intro ⟨by show (0 : Int) ≤ ((nextF fs l s).f : Int); omega, by show ((nextF fs l s).f : Int) < fs.length; omega⟩ ?_
      refine ⟨[((nth fs (nextF fs l s).f).W : Int)], And.intro rfl (And.intro rfl (fun y hy => by rw [List.mem_singleton.1 hy]; rfl)), ?_, ?_⟩
      · show (acc.length + 1) * 8 ≤ 140737488355328; omega
      have hwt : IntKind.i64.wrap ((nextF fs l s).t + l) = (nextF fs l s).t + l := i64_id _ (by omega) (by omega)
      refine ⟨[0, 1, 4], ⟨(k + 1, ⟨(nextF fs l s).pg, (nextF fs l s).f, (nextF fs l s).t + l⟩, acc ++ [(nth fs (nextF fs l s).f).W]), ?_, hwl, ?_, ⟨?_, ?_, ?_, ?_, ?_⟩, ?_⟩, ?_, ?_⟩
      · show ((k + 1 : Nat) : Int) ≤ _; omega
      · show (acc ++ [_]).length = k + 1; rw [List.length_append, hlen]; rfl
      · exact hnx.1
      · show 0 ≤ (nextF fs l s).t + l; omega
      · show (nextF fs l s).t + l ≤ _; omega
      · show 0 ≤ (nextF fs l s).pg; omega
      · show (nextF fs l s).pg ≤ _; omega
      · show (nextF fs l s).pg ≤ _; omega
      · refine And.intro (And.intro rfl (And.intro rfl (And.intro rfl (And.intro rfl (And.intro rfl (And.intro (sv_i64 (i64_succ k (by omega))) trivial)))))) (And.intro rfl (And.intro (And.intro rfl ?_) (And.intro rfl trivial)))
        show cellsOf (at' a.P a.L ⟨(nextF fs l s).pg, (nextF fs l s).f, IntKind.i64.wrap ((nextF fs l s).t + l)⟩).sv = _
        rw [hwt]; rfl
      · show _ - (k + 1) < _ - k; omega
  · have hge : ¬ (k : Int) < c := by simpa using hge
    rw [show c.toNat - k = 0 by omega] at hwl
    simp only [widL] at hwl
    refine fun ρ S w' hi' => ?_
    rw [← hwl]
    exact ⟨_, rfl, hi'.below, hi'.fresh 2 iDV_flat rfl rfl⟩
end Go.Proofs.Ytllbgbaahggapaa
