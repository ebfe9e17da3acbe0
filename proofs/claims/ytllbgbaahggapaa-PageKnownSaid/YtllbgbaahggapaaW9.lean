/- What page.Widths and the reference's Widths compute, for every input: the same widths and the same errno. -/
import Derived.Test.YtllbgbaahggapaaW8
namespace Go.Proofs.Ytllbgbaahggapaa
open Go Go.Eng Go.RowKit

def AOk (fs : List Frame) (l skip : Int) (a : Spot) (c : Int) : Prop := okF fs l = true ∧ inR skip 0 MS = true ∧ (0 ≤ a.Pg ∧ a.Pg ≤ 65535) ∧ (0 ≤ a.F ∧ a.F < fs.length) ∧ (0 ≤ c ∧ c ≤ 65536)
instance (fs : List Frame) (l skip : Int) (a : Spot) (c : Int) : Decidable (AOk fs l skip a c) := by unfold AOk; exact inferInstance

def widL (fs : List Frame) (l : Int) : Nat → S3 → List Int → Option (List Int)
  | 0, _, acc => some acc
  | n + 1, s, acc => if (nextF fs l s).pg < 65536 then widL fs l n ⟨(nextF fs l s).pg, (nextF fs l s).f, (nextF fs l s).t + l⟩ (acc ++ [(nth fs (nextF fs l s).f).W]) else none

def widthsF (fs : List Frame) (l skip : Int) (a : Spot) (c : Int) : List Int × Int :=
  if AOk fs l skip a c then
    if (nth fs a.F.toNat).Y ≤ a.T ∧ a.T ≤ (nth fs a.F.toNat).Y + (nth fs a.F.toNat).H then
      match widL fs l c.toNat ⟨a.Pg, a.F.toNat, a.T⟩ [] with | some acc => (acc, 0) | none => ([], 3)
    else ([], 2)
  else ([], 2)

def WidthsR (w : World) (r : List Int × Int) (e : Ending) (w' : World) : Prop :=
  ∃ v, e = .returned (.tuple #[v, .int .i64 r.2]) ∧ Below w.heap.size w w' ∧ Fresh w w' v 2 1 iDV r.1

set_option maxHeartbeats 4000000 in
theorem widths_c (fs : List Frame) (l skip : Int) (a : Spot) (c : Int) (v : Value) (w : World) (hv : Rd w v 4 Frame.enc fs) :
    Calls Try.prog 11 #[v, .int .i64 l, .int .i64 skip, a.val, .int .i64 c] w (WidthsR w (widthsF fs l skip a c)) := by
  refine calls_exec (cf := cf) cfok (fn := Try.f11) Try.func11 rfl [.sl 0, .v (.int .i64 l), .v (.int .i64 skip), a.sv, .v (.int .i64 c)] [.rd Frame inferInstance 4 Frame.enc fs] (ρ := fun _ => v) (· < w.heap.size) rfl rfl rfl (by simp [svOkL, svOk, Spot.sv]) (memRd (fun _ h => h) ⟨hv, trivial⟩) ?_
  refine Or.inl ⟨_, fun ρ S w' hm => Right_c fs l _ w' (hm.rd 0 rfl rfl), ?_⟩
  refine Or.inl ⟨_, fun _ ρ S w' hm => in_c _ _ _ _, ?_⟩
  refine Or.inl ⟨_, fun _ ρ S w' hm => in_c _ _ _ _, ?_⟩
  refine Or.inl ⟨_, fun _ ρ S w' hm => in_c _ _ _ _, ?_⟩
  refine Or.inl ⟨_, fun _ ρ S w' hm => in_c _ _ _ _, ?_⟩
  have hb : ((((!okF fs l || !inR skip 0 MS) || !inR a.Pg 0 65535) || !inR a.F 0 (w64 ((fs.length : Int) - 1))) || !inR c 0 65536) = true ↔ ¬ AOk fs l skip a c := by
    unfold AOk
    cases h : okF fs l
    · simp
    · have hok := (okF_iff fs l).1 h
      have e : w64 ((fs.length : Int) - 1) = (fs.length : Int) - 1 := i64_id _ (by have := hok.n1; omega) (by have := hok.n2; omega)
      rw [e]
      cases h2 : inR skip 0 MS
      · simp
      · unfold inR
        simp only [Bool.not_true, Bool.false_or, Bool.or_eq_true, Bool.not_eq_true', Bool.and_eq_false_iff, decide_eq_false_iff_not, true_and]
        omega
  refine And.intro (fun hbad => ?_) (fun hgood => ?_)
  · have hbad := hb.1 hbad
    refine fun ρ S w' hi => ?_
    unfold widthsF; rw [if_neg hbad]
    exact ⟨_, rfl, hi.below, Fresh.nil _ _ _ _ _⟩
  have hA : AOk fs l skip a c := by
    have hgood : ((((!okF fs l || !inR skip 0 MS) || !inR a.Pg 0 65535) || !inR a.F 0 (w64 ((fs.length : Int) - 1))) || !inR c 0 65536) = false := hgood
    by_cases h : AOk fs l skip a c
    · exact h
    · rw [hb.2 h] at hgood; cases hgood
  obtain ⟨hok, hsk, ⟨hp0, hp1⟩, ⟨hf0, hf1⟩, hc0, hc1⟩ := hA
  have hA : AOk fs l skip a c := ⟨hok, hsk, ⟨hp0, hp1⟩, ⟨hf0, hf1⟩, hc0, hc1⟩
  have hok := (okF_iff fs l).1 hok
  have hM := MS_eq
  have hl1 := hok.l1
  have q := hok.fr a.F.toNat (by omega)
  refine And.intro ⟨hf0, hf1⟩ ?_
  refine Or.inl ⟨_, fun ρ S w' hm => in_c _ _ _ _, ?_⟩
  have e2 : w64 ((nth fs a.F.toNat).Y + (nth fs a.F.toNat).H) = (nth fs a.F.toNat).Y + (nth fs a.F.toNat).H := i64_id _ (by omega) (by omega)
  have ht : inR a.T (nth fs a.F.toNat).Y (w64 ((nth fs a.F.toNat).Y + (nth fs a.F.toNat).H)) = true ↔ ((nth fs a.F.toNat).Y ≤ a.T ∧ a.T ≤ (nth fs a.F.toNat).Y + (nth fs a.F.toNat).H) := by
    rw [e2]; unfold inR; simp
  refine And.intro (fun hbad => ?_) (fun hgood => ?_)
  · have hbad : (!inR a.T (nth fs a.F.toNat).Y (w64 ((nth fs a.F.toNat).Y + (nth fs a.F.toNat).H))) = true := hbad
    refine fun ρ S w' hi => ?_
    unfold widthsF; rw [if_pos hA, if_neg (fun h => by rw [ht.2 h] at hbad; cases hbad)]
    exact ⟨_, rfl, hi.below, Fresh.nil _ _ _ _ _⟩
  have hgood : (!inR a.T (nth fs a.F.toNat).Y (w64 ((nth fs a.F.toNat).Y + (nth fs a.F.toNat).H))) = false := hgood
  have hT := ht.1 (by simpa using hgood)
  have hW : widthsF fs l skip a c = (match widL fs l c.toNat ⟨a.Pg, a.F.toNat, a.T⟩ [] with | some acc => (acc, 0) | none => ([], 3)) := by
    unfold widthsF; rw [if_pos hA, if_pos hT]
  rw [hW]
  have eF : ((a.F.toNat : Nat) : Int) = a.F := by omega
  refine ⟨{ x : Nat × S3 × List Int // (x.1 : Int) ≤ c ∧ widL fs l (c.toNat - x.1) x.2.1 x.2.2 = widL fs l c.toNat ⟨a.Pg, a.F.toNat, a.T⟩ [] ∧ x.2.2.length = x.1 ∧ PlOk fs x.2.1 ∧ x.2.1.pg ≤ 65536 },
    fun x => ⟨98, [⟨0, [], .sl 0⟩, ⟨1, [], .v (.int .i64 l)⟩, ⟨13, [], .sl 2⟩, ⟨14, [], .bx 1 0⟩, ⟨65, [], .v (.int .i64 c)⟩, ⟨66, [], .v (.int .i64 x.1.1)⟩], [.rd Frame inferInstance 4 Frame.enc fs, .bx 52 (filSV l a.P a.L x.1.2.1), .own 2 Int inferInstance 1 iDV x.1.2.2], [], dropL nats 3⟩,
    fun x => c.toNat - x.1.1, ⟨[0, 3, 1000], ⟨(0, ⟨a.Pg, a.F.toNat, a.T⟩, []), ?_⟩, ?_⟩, fun x => ?_⟩
  · exact ⟨by show (0 : Int) ≤ _; omega, rfl, rfl, ⟨by show a.F.toNat < _; omega, by show 0 ≤ a.T; omega, by show a.T ≤ _; omega, hp0, by show a.Pg ≤ _; omega⟩, by show a.Pg ≤ _; omega⟩
  · refine And.intro (And.intro rfl (And.intro rfl (And.intro rfl (And.intro rfl (And.intro rfl (And.intro rfl trivial)))))) (And.intro rfl (And.intro (And.intro rfl ?_) (And.intro rfl trivial)))
    show [SV.sl 0, SV.v (.int .i64 l), SV.v (.int .i64 a.P), SV.v (.int .i64 a.L), SV.v (.int .i64 a.Pg), SV.v (.int .i64 a.F), SV.v (.int .i64 a.T)] =
      [SV.sl 0, SV.v (.int .i64 l), SV.v (.int .i64 a.P), SV.v (.int .i64 a.L), SV.v (.int .i64 a.Pg), SV.v (.int .i64 (a.F.toNat : Int)), SV.v (.int .i64 a.T)]
    rw [eF]
  obtain ⟨⟨k, s, acc⟩, hk, hwl, hlen, hpl, hpg⟩ := x
  simp only at hk hwl hlen hpl hpg
  refine And.intro (fun hlt => ?_) (fun hge => ?_)
  · have hlt : (k : Int) < c := by simpa using hlt
    have hnx := next_ok fs l s hok hpl
    rw [show c.toNat - k = (c.toNat - (k + 1)) + 1 by omega] at hwl
    simp only [widL] at hwl
    refine Or.inr (lcall_box 1 (filSV l a.P a.L (nextF fs l s)) (.bool (decide ((nextF fs l s).pg < 65536))) rfl rfl rfl (fun ρ S w b hm hb hg hS => ?_) ?_)
    · simp only [denL, den, hb]
      exact line_c fs l a.P a.L s hok hpl (by omega) _ _ _ S hS (hm.ok 0 (blt_lt rfl)) hg
    refine And.intro (fun hout => ?_) (fun hin => ?_)
    · have hout : (!decide ((nextF fs l s).pg < 65536)) = true := hout
      refine fun ρ S w' hi' => ?_
      rw [← hwl, if_neg (by simpa using hout)]
      exact ⟨_, rfl, hi'.below, Fresh.nil _ _ _ _ _⟩
    · have hin : (!decide ((nextF fs l s).pg < 65536)) = false := hin
      have hin : (nextF fs l s).pg < 65536 := by simpa using hin
      rw [if_pos hin] at hwl
      have hnx1 := hnx.1
      refine Or.inr (Or.inr (Or.inl ⟨[0, 1, 2, 3, 4, 5, 6, 7, 8, 9, 10, 11, 12, 13], [13], [14, 15], by kernel_rfl, ?_⟩))
      refine And.intro ⟨by show (0 : Int) ≤ ((nextF fs l s).f : Int); omega, by show ((nextF fs l s).f : Int) < fs.length; omega⟩ ?_
      refine ⟨[((nth fs (nextF fs l s).f).W : Int)], And.intro rfl (And.intro rfl (fun y hy => by rw [List.mem_singleton.1 hy]; rfl)), ?_, ?_⟩
      · show (acc.length + 1) * 8 ≤ 140737488355328; omega
      have hwt : IntKind.i64.wrap ((nextF fs l s).t + l) = (nextF fs l s).t + l := i64_id _ (by omega) (by omega)
      refine ⟨[0, 1, 4], ⟨(k + 1, ⟨(nextF fs l s).pg, (nextF fs l s).f, (nextF fs l s).t + l⟩, acc ++ [(nth fs (nextF fs l s).f).W]), ?_, hwl, ?_, ⟨?_, ?_, ?_, ?_, ?_⟩, ?_⟩, ?_, ?_⟩
      · show ((k + 1 : Nat) : Int) ≤ _; omega
      · show (acc ++ [_]).length = k + 1; rw [List.length_append, hlen]; rfl
      · exact hnx.1
      · show 0 ≤ (nextF fs l s).t + l; omega
      · show (nextF fs l s).t + l ≤ _; omega
      · show 0 ≤ (nextF fs l s).pg; have := hpl.p0; omega
      · show (nextF fs l s).pg ≤ _; omega
      · show (nextF fs l s).pg ≤ _; omega
      · exact And.intro (And.intro rfl (And.intro rfl (And.intro rfl (And.intro rfl (And.intro rfl (And.intro (sv_i64 (i64_succ k (by omega))) trivial)))))) (And.intro rfl (And.intro (And.intro rfl (by show filSV l a.P a.L ⟨(nextF fs l s).pg, (nextF fs l s).f, IntKind.i64.wrap ((nextF fs l s).t + l)⟩ = _; rw [hwt]; rfl)) (And.intro rfl trivial)))
      · show _ - (k + 1) < _ - k; omega
  · have hge : ¬ (k : Int) < c := by simpa using hge
    rw [show c.toNat - k = 0 by omega] at hwl
    simp only [widL] at hwl
    refine fun ρ S w' hi' => ?_
    rw [← hwl]
    exact ⟨_, rfl, hi'.below, hi'.fresh 2 iDV_flat rfl rfl⟩
end Go.Proofs.Ytllbgbaahggapaa
