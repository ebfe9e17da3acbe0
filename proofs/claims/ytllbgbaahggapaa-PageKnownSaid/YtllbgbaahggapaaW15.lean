/- The walk of PagePlaces: it returns true for every input of few frames and paragraphs. -/
import Derived.Test.YtllbgbaahggapaaW15a
namespace Go.Proofs.Ytllbgbaahggapaa
open Go Go.Eng Go.RowKit

theorem placeF_take (fs : List Frame) (l skip : Int) (ps : List Int) : placeF (fs.take 70) l skip ps = placeF fs l skip ps := by
  by_cases h : fs.length ≤ 70
  · rw [List.take_of_length_le h]
  · have h1 : okF fs l = false := okF_len fs l (by omega)
    have h2 : okF (fs.take 70) l = false := okF_len _ l (by rw [List.length_take]; omega)
    unfold placeF
    rw [if_pos (by rw [h2]; rfl), if_pos (by rw [h1]; rfl)]
theorem okF_take (fs : List Frame) (l : Int) : okF (fs.take 70) l = okF fs l := by
  by_cases h : fs.length ≤ 70
  · rw [List.take_of_length_le h]
  · rw [okF_len fs l (by omega), okF_len _ l (by rw [List.length_take]; omega)]
theorem rowsFr (st : St) (fs : List Frame) : rowsAs st (.rd Frame inferInstance 4 Frame.enc fs) Frame inferInstance 4 Frame.enc fs := And.intro rfl (And.intro rfl (fun _ _ => And.intro rfl rfl))
theorem rowsIn (st : St) (xs : List Int) : rowsAs st (.rd Int inferInstance 1 iDV xs) Int inferInstance 1 iDV xs := And.intro rfl (And.intro rfl (fun _ _ => And.intro rfl rfl))

set_option maxHeartbeats 4000000 in
theorem places_c (fs : List Frame) (l skip : Int) (ps : List Int) (v pv : Value) (w : World) (hlf : fs.length ≤ 1000) (hlp : ps.length ≤ 1000) (hv : Rd w v 4 Frame.enc fs) (hp : Rd w pv 1 iDV ps) :
    Calls Try.prog 17 #[v, .int .i64 l, .int .i64 skip, pv] w fun e w' => e = .returned (.bool true) ∧ Below w.heap.size w w' := by
  refine calls_exec (cf := cf) cfok (fn := Try.f17) Try.func17 rfl [.sl 0, .v (.int .i64 l), .v (.int .i64 skip), .sl 1] [.rd Frame inferInstance 4 Frame.enc fs, .rd Int inferInstance 1 iDV ps] (ρ := fun i => match i with | 0 => v | _ => pv) (· < w.heap.size) rfl rfl rfl (by simp [svOkL, svOk]) (memRd (fun _ h => h) ⟨hv, hp, trivial⟩) ?_
  refine Or.inl ⟨_, fun ρ S w' hm => many_c ps _ w' (hm.rd 1 rfl rfl), ?_⟩
  refine And.intro (fun _ => ?_) (fun _ => ?_)
  · refine Or.inl ⟨.bool true, fun ρ S w' hm => works_c w', ?_⟩
    exact fun ρ S w' hi => ⟨rfl, hi.below⟩
  refine ⟨Frame, inferInstance, Frame.enc, fs, rowsFr _ fs, by show fs.length * 32 ≤ 140737488355328; omega, ?_⟩
  refine ⟨Int, inferInstance, iDV, ps, rowsIn _ ps, by show ps.length * 8 ≤ 140737488355328; omega, ?_⟩
  refine Or.inr (lcall_fresh2 (t := 31) (sz := 5) (enc := Spot.enc) (placeF fs l skip ps).1 (.int .i64 (placeF fs l skip ps).2) (fun ρ S w hm => place_a fs l skip ps _ _ w (by omega) (hm.own 2 rfl rfl) (hm.own 3 rfl rfl)) ?_)
  refine Or.inr (lcall_fresh (fs.take 70) (fun ρ S w hm => plain_c fs _ w (hm.rd 0 rfl rfl)) ?_)
  refine Or.inr (lcall_fresh2 (t := 42) (sz := 5) (enc := Spot.enc) (placeF fs l skip ps).1 (.int .i64 (placeF fs l skip ps).2) (fun ρ S w hm => by
    have := place_r (fs.take 70) l skip ps _ _ w (by omega) (hm.own 5 rfl rfl) (hm.rd 1 rfl rfl)
    rw [placeF_take] at this
    exact this) ?_)
  generalize hF : placeF fs l skip ps = F
  obtain ⟨A, e⟩ := F
  have hA : A.length ≤ 16777216 := by
    have := placeF_len fs l skip ps
    rw [hF] at this
    exact this
  refine Or.inl ⟨.bool (okF fs l), fun _ ρ S w' hm => Right_c fs l _ w' (hm.own 2 rfl rfl), ?_⟩
  have hgd : (!decide (e = e) || !decide ((A.length : Int) = (A.length : Int))) = false := by simp
  refine Or.inr (Or.inl ⟨And.intro hgd trivial, ?_⟩)
  refine Or.inr (lcall_fresh (fs.take 70) (fun ρ S w hm => plain_c fs _ w (hm.rd 0 rfl rfl)) ?_)
  refine Or.inl ⟨.bool (okF fs l), fun _ ρ S w' hm => by
    have := ref_right_c (fs.take 70) l _ w' (hm.own 7 rfl rfl)
    rw [okF_take] at this
    exact this, ?_⟩
  refine And.intro (fun hbad => ?_) (fun _ => ?_)
  · exfalso
    have hbad : ((!decide (e = e) || !decide ((A.length : Int) = (A.length : Int))) || !decide (okF fs l = okF fs l)) = true := hbad
    simp at hbad
  refine ⟨{ i : Nat // i ≤ A.length }, fun i => ⟨111, [⟨0, [], .sl 0⟩, ⟨3, [], .sl 1⟩, ⟨9, [], .sl 2⟩, ⟨10, [], .sl 3⟩, ⟨11, [], .sl 4⟩, ⟨13, [], .sl 5⟩, ⟨15, [], .v (.int .i64 i.1)⟩],
    [.rd Frame inferInstance 4 Frame.enc fs, .rd Int inferInstance 1 iDV ps, .own 33 Frame inferInstance 4 Frame.enc fs, .own 3 Int inferInstance 1 iDV ps, .own 31 Spot inferInstance 5 Spot.enc A, .own 42 Spot inferInstance 5 Spot.enc A], [], dropL nats 6⟩, fun i => A.length - i.1, ⟨[0, 1, 2, 3, 4, 6], ⟨0, by omega⟩, ?_⟩, fun i => ?_⟩
  · exact And.intro (And.intro rfl (And.intro rfl (And.intro rfl (And.intro rfl (And.intro rfl (And.intro rfl (And.intro rfl trivial))))))) (And.intro rfl (And.intro rfl (And.intro rfl (And.intro rfl (And.intro rfl (And.intro rfl trivial))))))
  obtain ⟨i, hi⟩ := i
  refine And.intro (fun hlt => ?_) (fun hge => ?_)
  · have hlt : i < A.length := by have : (i : Int) < (A.length : Int) := of_decide_eq_true hlt
                                  omega
    have hb : (0 : Int) ≤ (i : Int) ∧ (i : Int) < (A.length : Int) := ⟨by omega, by omega⟩
    refine Or.inl ⟨by kernel_rfl, ?_⟩
    refine And.intro hb ?_
    refine ⟨(nth A i).val, fun ρ S w' hm => spot_c (nth A i) w', ?_⟩
    refine And.intro hb ?_
    refine ⟨_, pure_aggEq (op := .neq) (.inr rfl) (l1 := [.int .i64 (nth A i).P, .int .i64 (nth A i).L, .int .i64 (nth A i).Pg, .int .i64 (nth A i).F, .int .i64 (nth A i).T]) (l2 := [.int .i64 (nth A i).P, .int .i64 (nth A i).L, .int .i64 (nth A i).Pg, .int .i64 (nth A i).F, .int .i64 (nth A i).T]) true rfl rfl (fun _ => rfl) (fun _ => rfl) Try.eqGuardType42 (fun w => eq42 _ _ _ _ _ w), ?_⟩
    refine And.intro (fun h => by cases h) (fun _ => ?_)
    exact ⟨[0, 1, 2, 3, 4, 5], ⟨i + 1, hlt⟩, And.intro (And.intro rfl (And.intro rfl (And.intro rfl (And.intro rfl (And.intro rfl (And.intro rfl (And.intro (sv_i64 (i64_succ i (by omega))) trivial))))))) (And.intro rfl (And.intro rfl (And.intro rfl (And.intro rfl (And.intro rfl (And.intro rfl trivial)))))), by show _ - (i + 1) < _ - i; omega⟩
  refine ⟨{ i : Nat // i ≤ fs.length }, fun i => ⟨111, [⟨0, [], .sl 0⟩, ⟨3, [], .sl 1⟩, ⟨9, [], .sl 2⟩, ⟨10, [], .sl 3⟩, ⟨16, [], .v (.int .i64 i.1)⟩],
    [.rd Frame inferInstance 4 Frame.enc fs, .rd Int inferInstance 1 iDV ps, .own 33 Frame inferInstance 4 Frame.enc fs, .own 3 Int inferInstance 1 iDV ps], [], dropL nats 4⟩, fun i => fs.length - i.1, ⟨[0, 1, 2, 3], ⟨0, by omega⟩, ?_⟩, fun i => ?_⟩
  · exact And.intro (And.intro rfl (And.intro rfl (And.intro rfl (And.intro rfl (And.intro rfl trivial))))) (And.intro rfl (And.intro rfl (And.intro rfl (And.intro rfl trivial))))
  obtain ⟨i, hi⟩ := i
  refine And.intro (fun hlt => ?_) (fun hge => ?_)
  · have hlt : i < fs.length := by have : (i : Int) < (fs.length : Int) := of_decide_eq_true hlt
                                   omega
    have hb : (0 : Int) ≤ (i : Int) ∧ (i : Int) < (fs.length : Int) := ⟨by omega, by omega⟩
    refine Or.inl ⟨by kernel_rfl, ?_⟩
    refine And.intro hb ?_
    refine And.intro hb ?_
    refine ⟨_, pure_aggEq (op := .neq) (.inr rfl) (l1 := [.int .i64 (nth fs i).X, .int .i64 (nth fs i).Y, .int .i64 (nth fs i).W, .int .i64 (nth fs i).H]) (l2 := [.int .i64 (nth fs i).X, .int .i64 (nth fs i).Y, .int .i64 (nth fs i).W, .int .i64 (nth fs i).H]) true rfl rfl (fun _ => rfl) (fun _ => rfl) Try.eqGuardType33 (fun w => eq33 _ _ _ _ w), ?_⟩
    refine And.intro (fun h => by cases h) (fun _ => ?_)
    exact ⟨[0, 1, 2, 3], ⟨i + 1, hlt⟩, And.intro (And.intro rfl (And.intro rfl (And.intro rfl (And.intro rfl (And.intro (sv_i64 (i64_succ i (by omega))) trivial))))) (And.intro rfl (And.intro rfl (And.intro rfl (And.intro rfl trivial)))), by show _ - (i + 1) < _ - i; omega⟩
  refine ⟨{ i : Nat // i ≤ ps.length }, fun i => ⟨111, [⟨3, [], .sl 1⟩, ⟨10, [], .sl 2⟩, ⟨17, [], .v (.int .i64 i.1)⟩],
    [.rd Frame inferInstance 4 Frame.enc fs, .rd Int inferInstance 1 iDV ps, .own 3 Int inferInstance 1 iDV ps], [], dropL nats 3⟩, fun i => ps.length - i.1, ⟨[0, 1, 3], ⟨0, by omega⟩, ?_⟩, fun i => ?_⟩
  · exact And.intro (And.intro rfl (And.intro rfl (And.intro rfl trivial))) (And.intro rfl (And.intro rfl (And.intro rfl trivial)))
  obtain ⟨i, hi⟩ := i
  refine And.intro (fun hlt => ?_) (fun hge => ?_)
  · have hlt : i < ps.length := by have : (i : Int) < (ps.length : Int) := of_decide_eq_true hlt
                                   omega
    have hb : (0 : Int) ≤ (i : Int) ∧ (i : Int) < (ps.length : Int) := ⟨by omega, by omega⟩
    refine Or.inl ⟨by kernel_rfl, ?_⟩
    refine And.intro hb ?_
    refine And.intro hb ?_
    refine And.intro (fun h => ?_) (fun _ => ?_)
    · exfalso
      have h : (!decide (nth ps i = nth ps i)) = true := h
      simp at h
    exact ⟨[0, 1, 2], ⟨i + 1, hlt⟩, And.intro (And.intro rfl (And.intro rfl (And.intro (sv_i64 (i64_succ i (by omega))) trivial))) (And.intro rfl (And.intro rfl (And.intro rfl trivial))), by show _ - (i + 1) < _ - i; omega⟩
  refine Or.inl ⟨.bool true, fun ρ S w' hm => works_c w', ?_⟩
  exact fun ρ S w' hi => ⟨rfl, hi.below⟩
end Go.Proofs.Ytllbgbaahggapaa
