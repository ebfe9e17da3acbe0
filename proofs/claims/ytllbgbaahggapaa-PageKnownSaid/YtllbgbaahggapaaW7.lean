/- What the law's plain and spot and the reference's Next compute (Next: for frames that are right and a place within bounds). -/
import Derived.Test.YtllbgbaahggapaaW6
namespace Go.Proofs.Ytllbgbaahggapaa
open Go Go.Eng Go.RowKit

theorem spot_c (s : Spot) (w : World) : Calls Try.prog 14 #[s.val] w fun e w' => e = .returned s.val ∧ Below w.heap.size w w' := by
  refine calls_exec (cf := cf) cfok (fn := Try.f14) Try.func14 rfl [s.sv] [] (ρ := fun _ => undef) (· < w.heap.size) rfl rfl rfl (by simp [svOkL, svOk, Spot.sv]) (memNil fun _ h => h) ?_
  exact fun ρ S w' hi => ⟨rfl, hi.below⟩

theorem take_succ (fs : List Frame) (i : Nat) (h : i < fs.length) : fs.take i ++ [nth fs i] = fs.take (i + 1) := by
  rw [nth_eq _ _ h, List.take_succ_eq_append_getElem h]

theorem plain_c (fs : List Frame) (v : Value) (w : World) (hv : Rd w v 4 Frame.enc fs) :
    Calls Try.prog 13 #[v] w fun e w' => ∃ u, e = .returned u ∧ Below w.heap.size w w' ∧ Fresh w w' u 54 4 Frame.enc (fs.take 70) := by
  refine calls_exec (cf := cf) cfok (fn := Try.f13) Try.func13 rfl [.sl 0] [.rd Frame inferInstance 4 Frame.enc fs] (ρ := fun _ => v) (· < w.heap.size) rfl rfl rfl (by simp [svOkL, svOk]) (memRd (fun _ h => h) ⟨hv, trivial⟩) ?_
  refine ⟨{ i : Nat // i ≤ fs.length ∧ i ≤ 70 },
    fun i => ⟨40, [⟨0, [], .sl 0⟩, ⟨3, [], .sl 1⟩, ⟨4, [], .v (.int .i64 i.1)⟩], [.rd Frame inferInstance 4 Frame.enc fs, .own 54 Frame inferInstance 4 Frame.enc (fs.take i.1)], [], dropL nats 2⟩,
    fun i => fs.length - i.1, ⟨[0, 1000], ⟨0, by omega, by omega⟩, ?_⟩, fun i => ?_⟩
  · exact And.intro (And.intro rfl (And.intro rfl (And.intro rfl trivial))) (And.intro rfl (And.intro rfl trivial))
  obtain ⟨i, hi, h70⟩ := i
  refine And.intro (fun hlt => ?_) (fun hge => ?_)
  · have hlt : (decide ((i : Int) < fs.length) && decide ((i : Int) < 70)) = true := hlt
    have hlt : i < fs.length ∧ i < 70 := by simp at hlt; omega
    have hb : (0 : Int) ≤ i ∧ (i : Int) < fs.length := by omega
    refine Or.inr (Or.inr (Or.inl ⟨[0, 1, 2, 3, 4, 5, 6, 7, 8, 9, 10, 11, 12, 13, 14, 15, 16, 17, 18, 19, 20, 21, 22], [22], [23, 24], by kernel_rfl, ?_⟩))
    refine And.intro hb (And.intro hb (And.intro hb (And.intro hb ?_)))
    refine ⟨[nth fs i], And.intro rfl (And.intro rfl (fun y hy => by rw [List.mem_singleton.1 hy]; rfl)), ?_, ?_⟩
    · show ((fs.take i).length + 1) * 32 ≤ 140737488355328
      have : (fs.take i).length ≤ 70 := by rw [List.length_take]; omega
      omega
    refine ⟨[0, 3], ⟨i + 1, by omega, by omega⟩, And.intro (And.intro rfl (And.intro rfl (And.intro (sv_i64 (i64_succ i (by omega))) trivial))) (And.intro rfl (And.intro ?_ trivial)), by show _ - (i + 1) < _ - i; omega⟩
    rw [← take_succ fs i hlt.1]
    rfl
  · have hge : (decide ((i : Int) < fs.length) && decide ((i : Int) < 70)) = false := hge
    have he : fs.take i = fs.take 70 := by
      simp at hge
      rcases Nat.lt_or_ge i fs.length with h | h
      · have : i = 70 := by omega
        rw [this]
      · rw [List.take_of_length_le h, List.take_of_length_le (by omega)]
    refine fun ρ S w' hi' => ⟨_, rfl, hi'.below, ?_⟩
    rw [← he]
    exact hi'.fresh 1 Frame_flat rfl rfl

def at' (P L : Int) (s : S3) : Spot := ⟨P, L, s.pg, s.f, s.t⟩

theorem next_c (fs : List Frame) (l P L : Int) (s : S3) (v : Value) (w : World) (h : FsOk fs l) (hs : PlOk fs s) (hv : Rd w v 4 Frame.enc fs) :
    Calls Try.prog 24 #[v, .int .i64 l, (at' P L s).val] w fun e w' => e = .returned (at' P L (nextF fs l s)).val ∧ Below w.heap.size w w' := by
  refine calls_exec (cf := cf) cfok (fn := Try.f24) Try.func24 rfl [.sl 0, .v (.int .i64 l), (at' P L s).sv] [.rd Frame inferInstance 4 Frame.enc fs] (ρ := fun _ => v) (· < w.heap.size) rfl rfl rfl (by simp [svOkL, svOk, Spot.sv]) (memRd (fun _ h => h) ⟨hv, trivial⟩) ?_
  have hf := hs.f
  have q := h.fr s.f hf
  have hM := MS_eq
  have h1 := hs.t0
  have h2 := hs.t1
  have h3 := h.l2
  have h4 := h.l1
  have h5 := hs.p0
  have h6 := hs.p1
  have hn := h.n2
  have hn1 := h.n1
  have e1 : w64 (s.t + l) = s.t + l := i64_id _ (by omega) (by omega)
  have e2 : w64 ((nth fs s.f).Y + (nth fs s.f).H) = (nth fs s.f).Y + (nth fs s.f).H := i64_id _ (by omega) (by omega)
  have e3 : w64 ((s.f : Int) + 1) = ((s.f + 1 : Nat) : Int) := (i64_id _ (by omega) (by omega)).trans (by omega)
  have e4 : w64 (s.pg + 1) = s.pg + 1 := i64_id _ (by omega) (by omega)
  refine And.intro ⟨by show (0 : Int) ≤ s.f; omega, by show (s.f : Int) < fs.length; omega⟩ ?_
  refine And.intro (fun hover => ?_) (fun hfit => ?_)
  · have hover : s.t + l > (nth fs s.f).Y + (nth fs s.f).H := by
      have := of_decide_eq_true (show decide (w64 (s.t + l) > w64 ((nth fs s.f).Y + (nth fs s.f).H)) = true from hover)
      omega
    have hnx : nextF fs l s = stepS fs s := by unfold nextF; rw [if_neg (by simp only [fit, decide_eq_true_eq]; omega)]
    refine And.intro (fun hlast => ?_) (fun hmore => ?_)
    · have hlast : s.f + 1 = fs.length := by
        have := of_decide_eq_true (show decide (w64 ((s.f : Int) + 1) = fs.length) = true from hlast)
        omega
      refine And.intro ⟨by omega, by show (0 : Int) < _; omega⟩ ?_
      refine fun ρ S w' hi => ⟨?_, hi.below⟩
      rw [hnx]; unfold stepS; rw [if_pos hlast]
      show Ending.returned (.agg #[.int .i64 P, .int .i64 L, .int .i64 (w64 (s.pg + 1)), .int .i64 0, .int .i64 (nth fs 0).Y]) = _
      rw [e4]; rfl
    · have hmore : ¬ s.f + 1 = fs.length := by
        have := of_decide_eq_false (show decide (w64 ((s.f : Int) + 1) = fs.length) = false from hmore)
        omega
      refine And.intro ⟨by show 0 ≤ w64 ((s.f : Int) + 1); omega, by show w64 ((s.f : Int) + 1) < _; omega⟩ ?_
      refine fun ρ S w' hi => ⟨?_, hi.below⟩
      rw [hnx]; unfold stepS; rw [if_neg hmore]
      show Ending.returned (.agg #[.int .i64 P, .int .i64 L, .int .i64 s.pg, .int .i64 (w64 ((s.f : Int) + 1)), .int .i64 (nth fs (w64 ((s.f : Int) + 1)).toNat).Y]) = _
      rw [e3]; rfl
  · have hfit : s.t + l ≤ (nth fs s.f).Y + (nth fs s.f).H := by
      have := of_decide_eq_false (show decide (w64 (s.t + l) > w64 ((nth fs s.f).Y + (nth fs s.f).H)) = false from hfit)
      omega
    have hnx : nextF fs l s = s := by unfold nextF; rw [if_pos (by simp only [fit, decide_eq_true_eq]; omega)]
    refine fun ρ S w' hi => ⟨?_, hi.below⟩
    rw [hnx]; rfl
end Go.Proofs.Ytllbgbaahggapaa
