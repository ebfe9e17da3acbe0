/- What the reference's Right computes, for every input: the same as page.Right. -/
import Derived.Test.YtllbgbaahggapaaW7
namespace Go.Proofs.Ytllbgbaahggapaa
open Go Go.Eng Go.RowKit

def badR (f : Frame) (l : Int) : Bool := ((((!inR f.X 0 MS || !inR f.Y 0 MS) || !inR f.W 1 MS) || !inR f.H l MS) || decide (w64 (f.X + f.W) > MS)) || decide (w64 (f.Y + f.H) > MS)

theorem badR_right (f : Frame) (l : Int) (hl : 1 ≤ l) : badR f l = !rightF f l := by
  have hM := MS_eq
  have key : badR f l = true ↔ ¬ rightF f l = true := by
    rw [rightF_iff f l hl]
    unfold badR inR
    simp only [Bool.or_eq_true, Bool.not_eq_true', Bool.and_eq_false_iff, decide_eq_true_eq, decide_eq_false_iff_not]
    by_cases h : 0 ≤ f.X ∧ f.X ≤ MS ∧ 0 ≤ f.Y ∧ f.Y ≤ MS ∧ 1 ≤ f.W ∧ f.W ≤ MS ∧ l ≤ f.H ∧ f.H ≤ MS
    · have e1 : w64 (f.X + f.W) = f.X + f.W := i64_id _ (by omega) (by omega)
      have e2 : w64 (f.Y + f.H) = f.Y + f.H := i64_id _ (by omega) (by omega)
      rw [e1, e2]; omega
    · constructor
      · intro _; omega
      · intro _; omega
  cases h1 : badR f l <;> cases h2 : rightF f l <;> simp_all

theorem ref_right_c (fs : List Frame) (l : Int) (v : Value) (w : World) (hv : Rd w v 4 Frame.enc fs) :
    Calls Try.prog 22 #[v, .int .i64 l] w fun e w' => e = .returned (.bool (okF fs l)) ∧ Below w.heap.size w w' := by
  refine calls_exec (cf := cf) cfok (fn := Try.f22) Try.func22 rfl [.sl 0, .v (.int .i64 l)] [.rd Frame inferInstance 4 Frame.enc fs] (ρ := fun _ => v) (· < w.heap.size) rfl rfl rfl (by simp [svOkL, svOk]) (memRd (fun _ h => h) ⟨hv, trivial⟩) ?_
  refine Or.inl ⟨_, fun ρ S w' hm => in2_c _ _ _ _, ?_⟩
  refine And.intro (fun hbad => ?_) (fun hgood => ?_)
  · refine fun ρ S w' hi => ⟨?_, hi.below⟩
    have hbad : ((!inR l 1 MS || decide ((fs.length : Int) < 1)) || decide ((fs.length : Int) > 64)) = true := hbad
    have : okF fs l = false := by
      unfold okF
      cases h1 : inR l 1 MS
      · rfl
      · simp only [h1, Bool.not_true, Bool.false_or, Bool.or_eq_true, decide_eq_true_eq] at hbad
        have : inR fs.length 1 64 = false := by unfold inR; simp; omega
        rw [this]; rfl
    rw [this]; rfl
  have hgood : ((!inR l 1 MS || decide ((fs.length : Int) < 1)) || decide ((fs.length : Int) > 64)) = false := hgood
  simp only [Bool.or_eq_false_iff, Bool.not_eq_false', decide_eq_false_iff_not] at hgood
  obtain ⟨⟨hl, hn1⟩, hn2⟩ := hgood
  have hl1 : 1 ≤ l := by unfold inR at hl; simp at hl; exact hl.1
  have hin : inR fs.length 1 64 = true := by unfold inR; simp; omega
  refine ⟨{ i : Nat // i ≤ fs.length ∧ ∀ j, j < i → rightF (nth fs j) l = true },
    fun i => ⟨69, [⟨0, [], .sl 0⟩, ⟨1, [], .v (.int .i64 l)⟩, ⟨5, [], .v (.int .i64 i.1)⟩], [.rd Frame inferInstance 4 Frame.enc fs], [], dropL nats 1⟩,
    fun i => fs.length - i.1, ⟨[0], ⟨0, by omega, fun j hj => by omega⟩, ?_⟩, fun i => ?_⟩
  · exact And.intro (And.intro rfl (And.intro rfl (And.intro rfl trivial))) (And.intro rfl trivial)
  obtain ⟨i, hi, hall⟩ := i
  refine And.intro (fun hlt => ?_) (fun hge => ?_)
  · have hlt : i < fs.length := by simpa using hlt
    refine And.intro ⟨by omega, by simpa using hlt⟩ ?_
    refine Or.inl ⟨_, fun ρ S w' hm => in2_c _ _ _ _, ?_⟩
    refine Or.inl ⟨_, fun _ ρ S w' hm => in2_c _ _ _ _, ?_⟩
    refine Or.inl ⟨_, fun _ ρ S w' hm => in2_c _ _ _ _, ?_⟩
    refine Or.inl ⟨_, fun _ ρ S w' hm => in2_c _ _ _ _, ?_⟩
    refine And.intro (fun hb => ?_) (fun hg => ?_)
    · have hb : badR (nth fs i) l = true := hb
      rw [badR_right _ _ hl1] at hb
      refine fun ρ S w' hi' => ⟨?_, hi'.below⟩
      have : okF fs l = false := by
        have h1 : badIx l 0 fs ≥ 0 := (badIx_neg l fs 0).2 ⟨i, hlt, by simpa using hb⟩
        unfold okF; rw [hl, hin]; simp [h1]
      rw [this]; rfl
    · have hg : badR (nth fs i) l = false := hg
      rw [badR_right _ _ hl1] at hg
      refine ⟨[0], ⟨i + 1, hlt, fun j hj => ?_⟩, And.intro (And.intro rfl (And.intro rfl (And.intro (sv_i64 (i64_succ i (by omega))) trivial))) (And.intro rfl trivial), by show _ - (i + 1) < _ - i; omega⟩
      by_cases e : j = i
      · subst e; simpa using hg
      · exact hall j (by omega)
  · have hge : i = fs.length := by have : ¬ i < fs.length := by simpa using hge
                                   omega
    refine fun ρ S w' hi' => ⟨?_, hi'.below⟩
    have : okF fs l = true := by
      have h1 : ¬ badIx l 0 fs ≥ 0 := fun h => by
        obtain ⟨j, hj, hb⟩ := (badIx_neg l fs 0).1 h
        rw [hall j (by omega)] at hb; cases hb
      unfold okF; rw [hl, hin]; simp [h1]
    rw [this]; rfl
end Go.Proofs.Ytllbgbaahggapaa
