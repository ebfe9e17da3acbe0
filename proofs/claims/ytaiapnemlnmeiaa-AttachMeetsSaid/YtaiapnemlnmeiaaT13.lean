/- attach.Origins. -/
import Derived.Test.YtaiapnemlnmeiaaT12
namespace Go.Proofs.Ytaiapnemlnmeiaa
open Go Go.Eng Go.RowKit

abbrev orC (l : List Place) (g : List Gl) (put : List Int) (pen : Int) : List Chunk :=
  [.rd Place inferInstance 4 plE l, .dead, .bx 33 [.sl 0], .bx 40 [.sl 5], .bx 34 [.v (.int .i64 0)], .own 45 Gl inferInstance 6 glE g, .own 21 Int inferInstance 1 jE put, .bx 43 [.sl 6], .bx 21 [.v (.int .i32 pen)]]
theorem glFlat : FlatE glE := ⟨fun g => [.int .u16 g.id, .int .i64 g.first, .int .i64 g.last, .int .i32 g.adv, .int .i32 g.x, .int .i32 g.y], fun _ => rfl⟩

set_option maxHeartbeats 1000000 in
theorem origins_c (l : List Place) (back : Bool) (ho : OrgOk l back) (hll : l.length ≤ 16384) (v : Value) (w : World) (hv : Rd w v 4 plE l) :
    Calls Try.prog 10 #[v, .bool back] w fun e w' => ∃ o, e = .returned (.tuple #[o, .int .i64 0]) ∧ Below w.heap.size w w' ∧ Fresh w w' o 45 6 glE (originsF l back) := by
  refine calls_execD (cf := cf) cfok (fn := Try.f10) Try.func10 rfl [.sl 0, .v (.bool back)] [.rd Place inferInstance 4 plE l] (ρ := fun _ => v) (· < w.heap.size) rfl rfl rfl (by simp [svOkL, svOk]) (memRd (fun _ h => h) ⟨hv, trivial⟩) ?_
  refine And.intro (fun h => absurd (of_decide_eq_true h : (l.length : Int) > 16384) (by omega)) (fun _ => ?_)
  refine ⟨{ i : Nat // i ≤ l.length }, fun i => ⟨136, [⟨1, [], .v (.bool back)⟩, ⟨2, [], .bx 2 0⟩, ⟨4, [], .bx 3 0⟩, ⟨5, [], .bx 4 0⟩, ⟨18, [], .sl 0⟩, ⟨19, [], .v (.int .i64 l.length)⟩, ⟨20, [], .v (.int .i64 i.1)⟩], [.rd Place inferInstance 4 plE l, .yk 0 true 0, .bx 33 [.sl 0], .bx 40 [.v (.slice none 0 0)], .bx 34 [.v (.int .i64 0)]], [], dropL nats 5⟩, fun i => l.length - i.1,
    ⟨[0, 1, 2, 3, 4], ⟨0, by omega⟩, ?_⟩, fun i => ?_⟩
  · exact And.intro (And.intro (rfl) (And.intro (rfl) (And.intro (rfl) (And.intro (rfl) (And.intro (rfl) (And.intro (rfl) (And.intro (rfl) trivial))))))) (And.intro (rfl) (And.intro (rfl) (And.intro (⟨rfl, rfl⟩) (And.intro (⟨rfl, rfl⟩) (And.intro (⟨rfl, rfl⟩) trivial)))))
  obtain ⟨i, hi⟩ := i
  refine And.intro (fun hlt => ?_) (fun hge => ?_)
  · have hlt : i < l.length := by have : (i : Int) < (l.length : Int) := of_decide_eq_true hlt
                                  omega
    refine And.intro (show (0 : Int) ≤ (i : Int) ∧ (i : Int) < (l.length : Int) from ⟨by omega, by omega⟩) ?_
    have hon := ho.on i hlt
    refine And.intro (fun h => ?_) (fun h => ?_)
    · have h : (decide ((nth l i).on < -1) || decide ((nth l i).on ≥ (i : Int))) = true := h
      rw [Bool.or_eq_true, decide_eq_true_iff, decide_eq_true_iff] at h
      omega
    exact ⟨[0, 1, 2, 3, 4], ⟨i + 1, hlt⟩, And.intro (And.intro (rfl) (And.intro (rfl) (And.intro (rfl) (And.intro (rfl) (And.intro (rfl) (And.intro (rfl) (And.intro (svI (i64_succ i (by omega))) trivial))))))) (And.intro (rfl) (And.intro (rfl) (And.intro (⟨rfl, rfl⟩) (And.intro (⟨rfl, rfl⟩) (And.intro (⟨rfl, rfl⟩) trivial))))), by show _ - (i + 1) < _ - i; omega⟩

  refine ⟨Gl, inferInstance, glE, ⟨0, 0, 0, 0, 0, 0⟩, rfl, by omega, by show (40 : Int) * (l.length : Int) ≤ _; omega, by omega, rfl, ?_⟩
  refine ⟨Int, inferInstance, jE, 0, rfl, by omega, by show (4 : Int) * (l.length : Int) ≤ _; omega, by omega, rfl, ?_⟩
  refine Or.inr (lcall_fnRps 30 [[.v (.int .i64 l.length)], [.v (.bool back)]] (fun ρ S w hm => row_c l.length back w S hm.lt) ?_)
  refine ⟨l.length, fun j => [.v (.int .i64 (rowJ l.length back j))], 9, [⟨2, [], .bx 2 0⟩, ⟨4, [], .bx 3 0⟩, ⟨5, [], .bx 4 0⟩, ⟨8, [], .bx 7 0⟩, ⟨9, [], .bx 8 0⟩], { j : Nat // j ≤ l.length }, fun j => orC l (glF l [] 0) (putF l back j.1) (penF l back j.1), fun j => j.1,
    fun ρ S w hm => ⟨fun j => rowV l.length back j, fun j _ => ⟨rfl, trivial⟩, row_it l.length back hll _ _ w S hm.lt (hm.rpS 9 rfl rfl) (hm.rpS 10 rfl rfl)⟩, fun j => rfl, rfl, rfl, fun j => rfl, fun j => rfl, rfl, rfl, ⟨[0, 1, 2, 3, 4, 5, 6, 7, 8], ⟨0, Nat.zero_le _⟩, rfl, ?_⟩, ?_, ?_⟩
  · exact And.intro (And.intro (rfl) (And.intro (rfl) (And.intro (rfl) (And.intro (rfl) (And.intro (rfl) trivial))))) (And.intro (rfl) (And.intro (trivial) (And.intro (⟨rfl, rfl⟩) (And.intro (⟨rfl, rfl⟩) (And.intro (⟨rfl, rfl⟩) (And.intro (rfl) (And.intro (rfl) (And.intro (⟨rfl, rfl⟩) (And.intro (⟨rfl, rfl⟩) trivial)))))))))
  · rintro ⟨j, hj⟩ hlt
    have hlt : j < l.length := hlt
    have hr := rowJ_lt (back := back) hlt
    refine And.intro (show (0 : Int) ≤ ((rowJ l.length back j : Nat) : Int) ∧ ((rowJ l.length back j : Nat) : Int) < ((putF l back j).length : Int) from ⟨by omega, by rw [putF_len]; omega⟩) ?_
    refine ⟨penF l back j, rfl, rfl, ?_⟩
    refine Or.inr (Or.inr (Or.inl ⟨[0, 1, 2, 3, 4, 5, 6, 7, 8, 9], [], [10], by kernel_rfl, ?_⟩))
    refine And.intro (show (0 : Int) ≤ ((rowJ l.length back j : Nat) : Int) ∧ ((rowJ l.length back j : Nat) : Int) < (l.length : Int) from ⟨by omega, by omega⟩) ?_
    refine ⟨.int .i32 (penF l back (j + 1)), fun ρ S w hm => ?_, ?_⟩
    · show Calls _ 20 #[.int .i64 (IntKind.i64.wrap (IntKind.i64.wrap (penF l back j) + IntKind.i64.wrap (nth l (rowJ l.length back j)).adv))] _ _
      rw [narrow_add (ho.pen j hj) (ho.pl _ hr).1]
      have := ho.pen (j + 1) hlt
      exact narrow_c _ this.1 this.2 w
    exact ⟨[0, 1, 2, 3, 4, 5, 6, 7, 8], ⟨j + 1, hlt⟩, rfl, And.intro (And.intro (rfl) (And.intro (rfl) (And.intro (rfl) (And.intro (rfl) (And.intro (rfl) trivial))))) (And.intro (rfl) (And.intro (trivial) (And.intro (⟨rfl, rfl⟩) (And.intro (⟨rfl, rfl⟩) (And.intro (⟨rfl, rfl⟩) (And.intro (rfl) (And.intro (rfl) (And.intro (⟨rfl, rfl⟩) (And.intro (⟨rfl, rfl⟩) trivial)))))))))⟩
  rintro ⟨j, hj⟩ hjn
  have hjn : j = l.length := hjn
  subst hjn
  have hPl := putF_len l back l.length
  have hP32 := putF_I32 (fun j hj => ho.pen j hj) l.length (Nat.le_refl _)
  have hD32 := drF_I32 (l := l) (put := putF l back l.length) (fun i hi => ho.dr i hi)
  have hDR := ho.dr
  have hDF := ho.df
  have hgl : originsF l back = glF l (putF l back l.length) l.length := rfl
  rw [hgl]
  have hg0 : glF l [] 0 = glF l (putF l back l.length) 0 := rfl
  refine ⟨D2, inferInstance, d2E, ⟨0, 0⟩, rfl, by omega, by show (8 : Int) * (l.length : Int) ≤ _; omega, by omega, rfl, ?_⟩
  refine ⟨{ i : Nat // i ≤ l.length }, fun i => ⟨136, [⟨2, [], .bx 2 0⟩, ⟨4, [], .bx 3 0⟩, ⟨5, [], .bx 4 0⟩, ⟨8, [], .bx 7 0⟩, ⟨11, [], .sl 9⟩, ⟨64, [], .sl 0⟩, ⟨65, [], .v (.int .i64 l.length)⟩, ⟨66, [], .v (.int .i64 i.1)⟩], orC l (glF l (putF l back l.length) i.1) (putF l back l.length) (penF l back l.length) ++ [.own 83 D2 inferInstance 2 d2E (drF l (putF l back l.length) i.1)], [], dropL nats 10⟩, fun i => l.length - i.1,
    ⟨[0, 1, 2, 3, 4, 5, 6, 7, 8, 9], ⟨0, by omega⟩, ?_⟩, fun i => ?_⟩
  · exact And.intro (And.intro (rfl) (And.intro (rfl) (And.intro (rfl) (And.intro (rfl) (And.intro (rfl) (And.intro (rfl) (And.intro (rfl) (And.intro (rfl) trivial)))))))) (And.intro (rfl) (And.intro (trivial) (And.intro (⟨rfl, rfl⟩) (And.intro (⟨rfl, rfl⟩) (And.intro (⟨rfl, rfl⟩) (And.intro (rfl) (And.intro (rfl) (And.intro (⟨rfl, rfl⟩) (And.intro (⟨rfl, rfl⟩) (And.intro (rfl) trivial))))))))))
  obtain ⟨i, hi⟩ := i
  refine And.intro (fun hlt => ?_) (fun hge => ?_)
  · have hlt : i < l.length := by have : (i : Int) < (l.length : Int) := of_decide_eq_true hlt
                                  omega
    have hon := ho.on i hlt
    have hpl := ho.pl i hlt
    have hpi := hP32 i hlt
    have hdr := hDR i hlt
    have hdf := hDF i hlt
    refine And.intro (show (0 : Int) ≤ (i : Int) ∧ (i : Int) < (l.length : Int) from ⟨by omega, by omega⟩) ?_
    refine And.intro (show (0 : Int) ≤ (i : Int) ∧ (i : Int) < ((putF l back l.length).length : Int) from ⟨by omega, by rw [hPl]; omega⟩) ?_
    refine And.intro (show (0 : Int) ≤ (i : Int) ∧ (i : Int) < ((drF l (putF l back l.length) i).length : Int) from ⟨by omega, by rw [drF_len]; omega⟩) ?_
    refine ⟨(⟨nth (putF l back l.length) i, 0⟩ : D2), rfl, rfl, ?_⟩
    refine And.intro (fun hb => ?_) (fun hb => ?_)
    · have hb : (nth l i).on ≥ 0 := of_decide_eq_true hb
      have hE : drE l (putF l back l.length) (drF l (putF l back l.length) i) i = ⟨(nth (drF l (putF l back l.length) i) (nth l i).on.toNat).x + (nth l i).x, (nth (drF l (putF l back l.length) i) (nth l i).on.toNat).y + (nth l i).y⟩ := by unfold drE; rw [if_pos hb]
      have hne : (nth l i).on.toNat ≠ i := by omega
      have h32 := hD32 i hi (nth l i).on.toNat (by omega)
      refine And.intro (show (0 : Int) ≤ (nth l i).on ∧ (nth l i).on < (((drF l (putF l back l.length) i).set i ⟨nth (putF l back l.length) i, 0⟩).length : Int) from ⟨by omega, by rw [List.length_set, drF_len]; omega⟩) ?_
      refine Or.inr (Or.inr (Or.inl ⟨[0, 1, 2, 3, 4, 5, 6, 7, 8, 9, 10, 11, 12, 13, 14, 15, 16, 17, 18, 19], [], [20], by kernel_rfl, ?_⟩))
      refine ⟨.int .i32 ((nth (drF l (putF l back l.length) i) (nth l i).on.toNat).x + (nth l i).x), fun ρ S w hm => ?_, ?_⟩
      · show Calls _ 20 #[.int .i64 (IntKind.i64.wrap (IntKind.i64.wrap (nth ((drF l (putF l back l.length) i).set i ⟨nth (putF l back l.length) i, 0⟩) (nth l i).on.toNat).x + IntKind.i64.wrap (nth l i).x))] _ _
        rw [nth_set_ne _ hne, narrow_add h32.1 hpl.2.1]
        rw [hE] at hdr
        exact narrow_c _ hdr.1.1 hdr.1.2 w
      refine ⟨.int .i32 ((nth (drF l (putF l back l.length) i) (nth l i).on.toNat).y + (nth l i).y), fun ρ S w hm => ?_, ?_⟩
      · show Calls _ 20 #[.int .i64 (IntKind.i64.wrap (IntKind.i64.wrap (nth ((drF l (putF l back l.length) i).set i ⟨nth (putF l back l.length) i, 0⟩) (nth l i).on.toNat).y + IntKind.i64.wrap (nth l i).y))] _ _
        rw [nth_set_ne _ hne, narrow_add h32.2 hpl.2.2]
        rw [hE] at hdr
        exact narrow_c _ hdr.2.1 hdr.2.2 w
      refine And.intro (show (0 : Int) ≤ (i : Int) ∧ (i : Int) < (((drF l (putF l back l.length) i).set i ⟨nth (putF l back l.length) i, 0⟩).length : Int) from ⟨by omega, by rw [List.length_set, drF_len]; omega⟩) ?_
      refine ⟨(⟨(nth (drF l (putF l back l.length) i) (nth l i).on.toNat).x + (nth l i).x, (nth (drF l (putF l back l.length) i) (nth l i).on.toNat).y + (nth l i).y⟩ : D2), rfl, rfl, ?_⟩
      refine Or.inr (Or.inr (Or.inl ⟨[0, 1, 2, 3, 4, 5, 6, 7, 8, 9, 10, 11, 12, 13, 14, 15, 16, 17, 18, 19, 20, 21, 22, 23, 24, 25, 26], [], [27], by kernel_rfl, ?_⟩))
      have hDl : (((drF l (putF l back l.length) i).set i ⟨nth (putF l back l.length) i, 0⟩).set i ⟨(nth (drF l (putF l back l.length) i) (nth l i).on.toNat).x + (nth l i).x, (nth (drF l (putF l back l.length) i) (nth l i).on.toNat).y + (nth l i).y⟩).length = l.length := by simp only [List.length_set]; exact drF_len _ _ _
      have hDn : nth (((drF l (putF l back l.length) i).set i ⟨nth (putF l back l.length) i, 0⟩).set i ⟨(nth (drF l (putF l back l.length) i) (nth l i).on.toNat).x + (nth l i).x, (nth (drF l (putF l back l.length) i) (nth l i).on.toNat).y + (nth l i).y⟩) i = drE l (putF l back l.length) (drF l (putF l back l.length) i) i := by rw [nth_set _ (by rw [List.length_set, drF_len]; omega), hE]
      refine And.intro (show (0 : Int) ≤ (i : Int) ∧ (i : Int) < ((((drF l (putF l back l.length) i).set i ⟨nth (putF l back l.length) i, 0⟩).set i ⟨(nth (drF l (putF l back l.length) i) (nth l i).on.toNat).x + (nth l i).x, (nth (drF l (putF l back l.length) i) (nth l i).on.toNat).y + (nth l i).y⟩).length : Int) from ⟨by omega, by rw [hDl]; omega⟩) ?_
      refine And.intro (show (0 : Int) ≤ (i : Int) ∧ (i : Int) < ((putF l back l.length).length : Int) from ⟨by omega, by rw [hPl]; omega⟩) ?_
      refine ⟨.int .i32 ((drE l (putF l back l.length) (drF l (putF l back l.length) i) i).x - nth (putF l back l.length) i), fun ρ S w hm => ?_, ?_⟩
      · show Calls _ 20 #[.int .i64 (IntKind.i64.wrap (IntKind.i64.wrap (nth (((drF l (putF l back l.length) i).set i ⟨nth (putF l back l.length) i, 0⟩).set i ⟨(nth (drF l (putF l back l.length) i) (nth l i).on.toNat).x + (nth l i).x, (nth (drF l (putF l back l.length) i) (nth l i).on.toNat).y + (nth l i).y⟩) i).x - IntKind.i64.wrap (nth (putF l back l.length) i)))] _ _
        rw [hDn, narrow_sub hdr.1 hpi]
        exact narrow_c _ hdf.1 hdf.2 w
      refine And.intro (show (0 : Int) ≤ (i : Int) ∧ (i : Int) < ((((drF l (putF l back l.length) i).set i ⟨nth (putF l back l.length) i, 0⟩).set i ⟨(nth (drF l (putF l back l.length) i) (nth l i).on.toNat).x + (nth l i).x, (nth (drF l (putF l back l.length) i) (nth l i).on.toNat).y + (nth l i).y⟩).length : Int) from ⟨by omega, by rw [hDl]; omega⟩) ?_
      refine And.intro (show (0 : Int) ≤ (i : Int) ∧ (i : Int) < ((glF l (putF l back l.length) i).length : Int) from ⟨by omega, by rw [glF_len]; omega⟩) ?_
      refine ⟨(⟨0, i, IntKind.i64.wrap ((i : Int) + 1), (nth l i).adv, (drE l (putF l back l.length) (drF l (putF l back l.length) i) i).x - nth (putF l back l.length) i, (nth (((drF l (putF l back l.length) i).set i ⟨nth (putF l back l.length) i, 0⟩).set i ⟨(nth (drF l (putF l back l.length) i) (nth l i).on.toNat).x + (nth l i).x, (nth (drF l (putF l back l.length) i) (nth l i).on.toNat).y + (nth l i).y⟩) i).y⟩ : Gl), rfl, rfl, ?_⟩
      have hG : (glF l (putF l back l.length) i).set i (⟨0, i, IntKind.i64.wrap ((i : Int) + 1), (nth l i).adv, (drE l (putF l back l.length) (drF l (putF l back l.length) i) i).x - nth (putF l back l.length) i, (nth (((drF l (putF l back l.length) i).set i ⟨nth (putF l back l.length) i, 0⟩).set i ⟨(nth (drF l (putF l back l.length) i) (nth l i).on.toNat).x + (nth l i).x, (nth (drF l (putF l back l.length) i) (nth l i).on.toNat).y + (nth l i).y⟩) i).y⟩ : Gl) = glF l (putF l back l.length) (i + 1) := by
        rw [hDn, i64_id ((i : Int) + 1) (by omega) (by omega)]; rfl
      have hDD : ((drF l (putF l back l.length) i).set i ⟨nth (putF l back l.length) i, 0⟩).set i ⟨(nth (drF l (putF l back l.length) i) (nth l i).on.toNat).x + (nth l i).x, (nth (drF l (putF l back l.length) i) (nth l i).on.toNat).y + (nth l i).y⟩ = drF l (putF l back l.length) (i + 1) := by rw [List.set_set, ← hE]; rfl
      exact ⟨[0, 1, 2, 3, 4, 5, 6, 7, 8, 9], ⟨i + 1, hlt⟩, And.intro (And.intro (rfl) (And.intro (rfl) (And.intro (rfl) (And.intro (rfl) (And.intro (rfl) (And.intro (rfl) (And.intro (rfl) (And.intro (svI (i64_succ i (by omega))) trivial)))))))) (And.intro (rfl) (And.intro (trivial) (And.intro (⟨rfl, rfl⟩) (And.intro (⟨rfl, rfl⟩) (And.intro (⟨rfl, rfl⟩) (And.intro (congrArg (fun z => Chunk.own 45 Gl inferInstance 6 glE z) hG) (And.intro (rfl) (And.intro (⟨rfl, rfl⟩) (And.intro (⟨rfl, rfl⟩) (And.intro (congrArg (fun z => Chunk.own 83 D2 inferInstance 2 d2E z) hDD) trivial)))))))))), by show _ - (i + 1) < _ - i; omega⟩
    · have hb : ¬ (nth l i).on ≥ 0 := of_decide_eq_false hb
      have hE : drE l (putF l back l.length) (drF l (putF l back l.length) i) i = ⟨nth (putF l back l.length) i, 0⟩ := by unfold drE; rw [if_neg hb]
      refine Or.inr (Or.inr (Or.inl ⟨[0, 1, 2, 3, 4, 5, 6, 7, 8, 9, 10, 11, 12, 13, 14, 15, 16, 17, 18, 19, 20, 21, 22, 23, 24, 25, 26], [], [27], by kernel_rfl, ?_⟩))
      have hDl : ((drF l (putF l back l.length) i).set i ⟨nth (putF l back l.length) i, 0⟩).length = l.length := by simp only [List.length_set]; exact drF_len _ _ _
      have hDn : nth ((drF l (putF l back l.length) i).set i ⟨nth (putF l back l.length) i, 0⟩) i = drE l (putF l back l.length) (drF l (putF l back l.length) i) i := by rw [nth_set _ (by rw [drF_len]; omega), hE]
      refine And.intro (show (0 : Int) ≤ (i : Int) ∧ (i : Int) < (((drF l (putF l back l.length) i).set i ⟨nth (putF l back l.length) i, 0⟩).length : Int) from ⟨by omega, by rw [hDl]; omega⟩) ?_
      refine And.intro (show (0 : Int) ≤ (i : Int) ∧ (i : Int) < ((putF l back l.length).length : Int) from ⟨by omega, by rw [hPl]; omega⟩) ?_
      refine ⟨.int .i32 ((drE l (putF l back l.length) (drF l (putF l back l.length) i) i).x - nth (putF l back l.length) i), fun ρ S w hm => ?_, ?_⟩
      · show Calls _ 20 #[.int .i64 (IntKind.i64.wrap (IntKind.i64.wrap (nth ((drF l (putF l back l.length) i).set i ⟨nth (putF l back l.length) i, 0⟩) i).x - IntKind.i64.wrap (nth (putF l back l.length) i)))] _ _
        rw [hDn, narrow_sub hdr.1 hpi]
        exact narrow_c _ hdf.1 hdf.2 w
      refine And.intro (show (0 : Int) ≤ (i : Int) ∧ (i : Int) < (((drF l (putF l back l.length) i).set i ⟨nth (putF l back l.length) i, 0⟩).length : Int) from ⟨by omega, by rw [hDl]; omega⟩) ?_
      refine And.intro (show (0 : Int) ≤ (i : Int) ∧ (i : Int) < ((glF l (putF l back l.length) i).length : Int) from ⟨by omega, by rw [glF_len]; omega⟩) ?_
      refine ⟨(⟨0, i, IntKind.i64.wrap ((i : Int) + 1), (nth l i).adv, (drE l (putF l back l.length) (drF l (putF l back l.length) i) i).x - nth (putF l back l.length) i, (nth ((drF l (putF l back l.length) i).set i ⟨nth (putF l back l.length) i, 0⟩) i).y⟩ : Gl), rfl, rfl, ?_⟩
      have hG : (glF l (putF l back l.length) i).set i (⟨0, i, IntKind.i64.wrap ((i : Int) + 1), (nth l i).adv, (drE l (putF l back l.length) (drF l (putF l back l.length) i) i).x - nth (putF l back l.length) i, (nth ((drF l (putF l back l.length) i).set i ⟨nth (putF l back l.length) i, 0⟩) i).y⟩ : Gl) = glF l (putF l back l.length) (i + 1) := by
        rw [hDn, i64_id ((i : Int) + 1) (by omega) (by omega)]; rfl
      have hDD : (drF l (putF l back l.length) i).set i ⟨nth (putF l back l.length) i, 0⟩ = drF l (putF l back l.length) (i + 1) := by rw [← hE]; rfl
      exact ⟨[0, 1, 2, 3, 4, 5, 6, 7, 8, 9], ⟨i + 1, hlt⟩, And.intro (And.intro (rfl) (And.intro (rfl) (And.intro (rfl) (And.intro (rfl) (And.intro (rfl) (And.intro (rfl) (And.intro (rfl) (And.intro (svI (i64_succ i (by omega))) trivial)))))))) (And.intro (rfl) (And.intro (trivial) (And.intro (⟨rfl, rfl⟩) (And.intro (⟨rfl, rfl⟩) (And.intro (⟨rfl, rfl⟩) (And.intro (congrArg (fun z => Chunk.own 45 Gl inferInstance 6 glE z) hG) (And.intro (rfl) (And.intro (⟨rfl, rfl⟩) (And.intro (⟨rfl, rfl⟩) (And.intro (congrArg (fun z => Chunk.own 83 D2 inferInstance 2 d2E z) hDD) trivial)))))))))), by show _ - (i + 1) < _ - i; omega⟩
  have hge : i = l.length := by have : ¬ (i : Int) < (l.length : Int) := of_decide_eq_false hge
                                omega
  subst hge
  refine And.intro rfl (dcall_sub [4] (guard_r 0) rfl rfl rfl rfl rfl (And.intro (And.intro rfl rfl) trivial) ?_)
  refine And.intro rfl (dcall_sub [4, 3, 5] (or1_r (glF l (putF l back l.length) l.length)) rfl rfl rfl rfl rfl (And.intro (⟨rfl, rfl⟩) (And.intro (⟨rfl, rfl⟩) (And.intro (rfl) trivial))) ?_)
  exact fun ρ S w' hi => ⟨_, rfl, hi.below, hi.fresh 5 glFlat rfl rfl⟩
end Go.Proofs.Ytaiapnemlnmeiaa
