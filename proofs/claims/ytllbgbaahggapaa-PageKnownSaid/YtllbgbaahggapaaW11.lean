/- The walk of PageWidths: it returns true for every input; the arguments stay as they are. -/
import Derived.Test.YtllbgbaahggapaaW10
namespace Go.Proofs.Ytllbgbaahggapaa
open Go Go.Eng Go.RowKit

theorem okF_len (fs : List Frame) (l : Int) (h : 64 < fs.length) : okF fs l = false := by
  have : inR (fs.length : Int) 1 64 = false := by unfold inR; simp; omega
  unfold okF; rw [this]; simp

theorem widthsF_take (fs : List Frame) (l skip : Int) (a : Spot) (c : Int) : widthsF (fs.take 70) l skip a c = widthsF fs l skip a c := by
  by_cases h : fs.length ≤ 70
  · rw [List.take_of_length_le h]
  · have h1 : okF fs l = false := okF_len fs l (by omega)
    have h2 : okF (fs.take 70) l = false := okF_len _ l (by rw [List.length_take]; omega)
    unfold widthsF
    rw [if_neg (by unfold AOk; rw [h2]; simp), if_neg (by unfold AOk; rw [h1]; simp)]

theorem widL_len (fs : List Frame) (l : Int) : ∀ n s acc r, widL fs l n s acc = some r → r.length = acc.length + n
  | 0, s, acc, r, h => by simp only [widL, Option.some.injEq] at h; subst h; rfl
  | n + 1, s, acc, r, h => by
    simp only [widL] at h
    split at h
    · have := widL_len fs l n _ _ r h
      rw [this, List.length_append]; simp only [List.length_cons, List.length_nil]; omega
    · cases h

theorem widthsF_len (fs : List Frame) (l skip : Int) (a : Spot) (c : Int) : (widthsF fs l skip a c).1.length ≤ 65536 := by
  unfold widthsF
  split
  · rename_i h
    obtain ⟨_, _, _, _, hc0, hc1⟩ := h
    split
    · split
      · rename_i acc hw
        have := widL_len _ _ _ _ _ _ hw
        simp only [this, List.length_nil]; omega
      · simp
    · simp
  · simp

set_option maxHeartbeats 4000000 in
theorem law_widths_c (fs : List Frame) (l skip : Int) (a : Spot) (c : Int) (v : Value) (w : World) (hv : Rd w v 4 Frame.enc fs) :
    Calls Try.prog 4 #[v, .int .i64 l, .int .i64 skip, a.val, .int .i64 c] w fun e w' => e = .returned (.bool true) ∧ Below w.heap.size w w' := by
  refine calls_exec (cf := cf) cfok (fn := Try.f4) Try.func4 rfl [.sl 0, .v (.int .i64 l), .v (.int .i64 skip), a.sv, .v (.int .i64 c)] [.rd Frame inferInstance 4 Frame.enc fs] (ρ := fun _ => v) (· < w.heap.size) rfl rfl rfl (by simp [svOkL, svOk, Spot.sv]) (memRd (fun _ h => h) ⟨hv, trivial⟩) ?_
  refine And.intro (fun _ => ?_) (fun _ => ?_)
  · refine Or.inl ⟨.bool true, fun ρ S w' hm => works_c w', ?_⟩
    exact fun ρ S w' hi => ⟨rfl, hi.below⟩
  refine Or.inr (lcall_fresh2 (t := 2) (sz := 1) (enc := iDV) (widthsF fs l skip a c).1 (.int .i64 (widthsF fs l skip a c).2) (fun ρ S w hm => widths_c fs l skip a c _ w (hm.rd 0 rfl rfl)) ?_)
  refine Or.inr (Or.inr (Or.inl ⟨[0, 2, 3, 4, 6, 1, 5, 7, 8, 9, 10, 11, 12], [1, 7], [], by kernel_rfl, ?_⟩))
  refine mcall_fresh (fs.take 70) (fun ρ S w hm => plain_c fs _ w (hm.rd 0 rfl rfl)) ?_
  refine ⟨a.val, fun ρ S w' hm => spot_c a w', ?_⟩
  refine mcall_fresh2 (t := 2) (sz := 1) (enc := iDV) (widthsF fs l skip a c).1 (.int .i64 (widthsF fs l skip a c).2) (fun ρ S w hm => ?_) ?_
  · rw [← widthsF_take]
    exact ref_widths_c (fs.take 70) l skip a c _ w (hm.own 3 rfl rfl)
  have hlen := widthsF_len fs l skip a c
  generalize (widthsF fs l skip a c).1 = out at hlen
  generalize (widthsF fs l skip a c).2 = er
  refine And.intro (fun hbad => ?_) (fun _ => ?_)
  · exfalso
    have hbad : (!decide (er = er) || !decide ((out.length : Int) = out.length)) = true := hbad
    simp at hbad
  refine ⟨{ i : Nat // i ≤ out.length },
    fun i => ⟨69, [⟨11, [], .sl 1⟩, ⟨13, [], .sl 2⟩, ⟨15, [], .v (.int .i64 i.1)⟩], [.rd Frame inferInstance 4 Frame.enc fs, .own 2 Int inferInstance 1 iDV out, .own 2 Int inferInstance 1 iDV out], [], dropL nats 3⟩,
    fun i => out.length - i.1, ⟨[0, 2, 4], ⟨0, by omega⟩, ?_⟩, fun i => ?_⟩
  · exact And.intro (And.intro rfl (And.intro rfl (And.intro rfl trivial))) (And.intro rfl (And.intro rfl (And.intro rfl trivial)))
  obtain ⟨i, hi⟩ := i
  refine And.intro (fun hlt => ?_) (fun hge => ?_)
  · have hlt : i < out.length := by simpa using hlt
    refine Or.inl ⟨by kernel_rfl, ?_⟩
    refine And.intro ⟨by omega, by simpa using hlt⟩ (And.intro ⟨by omega, by simpa using hlt⟩ ?_)
    refine And.intro (fun hbad => ?_) (fun _ => ?_)
    · exfalso
      have hbad : (!decide (nth out i = nth out i)) = true := hbad
      simp at hbad
    · exact ⟨[0, 1, 2], ⟨i + 1, hlt⟩, And.intro (And.intro rfl (And.intro rfl (And.intro (sv_i64 (i64_succ i (by omega))) trivial))) (And.intro rfl (And.intro rfl (And.intro rfl trivial))), by show _ - (i + 1) < _ - i; omega⟩
  · refine Or.inl ⟨.bool true, fun ρ S w' hm => works_c w', ?_⟩
    exact fun ρ S w' hi => ⟨rfl, hi.below⟩
end Go.Proofs.Ytllbgbaahggapaa
