/- The law CoverPuts. -/
import Derived.Test.YtblhmanmniglfaaR13
namespace Go.Proofs.Ytblhmanmniglfaa
open Go Go.Eng Go.RowKit

theorem putX_some {l a : List Int} (h : putX l = some a) : 0 < l.length ∧ l.length ≤ 65535 ∧ (∀ i, i < l.length → upF l i = true) ∧ a = pcL l l.length := by
  unfold putX at h
  split at h
  · cases h
  split at h
  · rename_i h1 h2
    cases h
    exact ⟨by omega, by omega, h2, rfl⟩
  · cases h
theorem pclX_some {c b : List Int} (h : pclX c = some b) : c.length ≤ 65535 ∧ (∀ j, j < c.length → nth c j ≤ 4) ∧ b = [0, 2] ++ tw (((rowsF c 0).length / 6 : Nat) : Int) ++ rowsF c 0 := by
  unfold pclX at h
  split at h
  · cases h
  · rename_i h1
    cases h
    refine ⟨?_, fun j hj => ?_, rfl⟩
    · rcases Nat.lt_or_ge 65535 c.length with h2 | h2
      · exact absurd (.inl h2) h1
      · exact h2
    · rcases Int.lt_or_le 4 (nth c j) with h2 | h2
      · exact absurd (.inr ⟨j, hj, h2⟩) h1
      · exact h2
theorem putX_len (l : List Int) : ((putX l).getD []).length ≤ 131074 := by
  cases h : putX l with
  | none => exact Nat.zero_le _
  | some a =>
    obtain ⟨_, h2, _, rfl⟩ := putX_some h
    show (pcL l l.length).length ≤ _
    rw [pcL_len]; omega
theorem rowsF_len (c : List Int) : (rowsF c 0).length ≤ 6 * c.length := by
  have key : ∀ (n : Nat) (s : RS c), c.length - s.i ≤ n → ∃ s' : RS c, s'.i = c.length := by
    intro n
    induction n with
    | zero => intro s hn; exact ⟨s, by have := s.hi; omega⟩
    | succ n ih =>
      intro s hn
      by_cases hlt : s.i < c.length
      · refine ih (s.next hlt) ?_
        have := endR_self c s.i hlt
        show c.length - endR c s.i s.i ≤ n
        omega
      · exact ⟨s, by have := s.hi; omega⟩
  obtain ⟨s, hs⟩ := key c.length (RS.init c) (by show c.length - 0 ≤ _; omega)
  obtain ⟨h1, h2⟩ := s.done hs
  have := s.hm
  have := s.hmi
  rw [← h1]; omega
theorem pclX_len (c : List Int) : ((pclX c).getD []).length ≤ 393214 := by
  cases h : pclX c with
  | none => exact Nat.zero_le _
  | some a =>
    obtain ⟨h1, _, rfl⟩ := pclX_some h
    have := rowsF_len c
    show ([0, 2] ++ tw _ ++ rowsF c 0).length ≤ _
    rw [List.length_append, List.length_append, tw_len]
    show 2 + 2 + _ ≤ _
    omega
theorem errO_zero {o : Option (List Int)} {c : Int} (hc : c ≠ 0) (h : errO o c = 0) : ∃ a, o = some a := by
  cases o with
  | none => exact absurd h hc
  | some a => exact ⟨a, rfl⟩
theorem put_o (l A : List Int) (hA : (putX l).getD [] = A) (v : Value) (w : World) (hv : Rd w v 1 hE l) : Calls Try.prog 13 #[v] w fun e w' => ∃ u, e = .returned (.tuple #[u, .int .i64 (errO (putX l) 2)]) ∧ Below w.heap.size w w' ∧ Fresh w w' u 5 1 bE A := by
  subst hA; exact put_c l v w hv

set_option maxHeartbeats 1000000 in
theorem puts_c (l c : List Int) (v u : Value) (w : World) (hl : ∀ x ∈ l, 0 ≤ x ∧ x ≤ 65535) (hc : ∀ x ∈ c, 0 ≤ x) (hv : Rd w v 1 hE l) (hu : Rd w u 1 bE c) :
    Calls Try.prog 5 #[v, u] w fun e w' => e = .returned (.bool true) ∧ Below w.heap.size w w' := by
  refine calls_exec (cf := cf) cfok (fn := Try.f5) Try.func5 rfl [.sl 0, .sl 1] [.rd Int inferInstance 1 hE l, .rd Int inferInstance 1 bE c] (ρ := fun i => if i = 0 then v else u) (· < w.heap.size) rfl rfl rfl (by simp [svOkL, svOk]) (memRd (fun _ h => h) ⟨hv, hu, trivial⟩) ?_
  refine And.intro (fun h => ?_) (fun h => ?_)
  · refine Or.inl ⟨.bool true, fun ρ S w hm => works_c w, ?_⟩
    exact fun ρ S w' hi => ⟨rfl, hi.below⟩
  have h : ((decide ((l.length : Int) > 1000) && decide ((l.length : Int) ≤ 65535)) || (decide ((c.length : Int) > 1000) && decide ((c.length : Int) ≤ 65535))) = false := h
  rw [Bool.or_eq_false_iff, Bool.and_eq_false_iff, Bool.and_eq_false_iff, decide_eq_false_iff_not, decide_eq_false_iff_not, decide_eq_false_iff_not, decide_eq_false_iff_not] at h
  have hcl : c.length ≤ 1000 ∨ c.length > 65535 := by omega
  have hA := putX_len l
  have hB := pclX_len c
  refine Or.inr (lcall_fresh2 (t := 5) (sz := 1) (enc := bE) ((putX l).getD []) (.int .i64 (errO (putX l) 2)) (fun ρ S w hm => put_c l _ w (hm.rd 0 rfl rfl)) ?_)
  refine Or.inr (lcall_fresh2 (t := 5) (sz := 1) (enc := bE) ((putX l).getD []) (.int .i64 (errO (putX l) 2)) (fun ρ S w hm => rput_c l _ w (hm.rd 0 rfl rfl)) ?_)
  refine Or.inr (lcall_fresh2 (t := 5) (sz := 1) (enc := bE) ((pclX c).getD []) (.int .i64 (errO (pclX c) 2)) (fun ρ S w hm => pcl_c c _ w hcl (hm.rd 1 rfl rfl)) ?_)
  refine Or.inr (lcall_fresh2 (t := 5) (sz := 1) (enc := bE) ((pclX c).getD []) (.int .i64 (errO (pclX c) 2)) (fun ρ S w hm => rpcl_c c _ w hcl (hm.rd 1 rfl rfl)) ?_)
  refine Or.inl ⟨.bool true, fun _ ρ S w hm => sameb_c _ _ _ w (hm.own 2 rfl rfl) (hm.own 3 rfl rfl), ?_⟩
  refine Or.inl ⟨.bool true, fun _ ρ S w hm => sameb_c _ _ _ w (hm.own 4 rfl rfl) (hm.own 5 rfl rfl), ?_⟩
  refine And.intro (fun h => ?_) (fun _ => ?_)
  · have h : (((!decide (errO (putX l) 2 = errO (putX l) 2)) || !true) || (!decide (errO (pclX c) 2 = errO (pclX c) 2)) || !true) = true := h
    simp at h
  have hp : ∀ a, putX l = some a → covX ((putX l).getD []) 0 65536 = some l := fun a ha => by
    obtain ⟨h1, h2, h3, h4⟩ := putX_some ha
    rw [ha, h4]
    exact cov_put l h1 h2 hl h3
  have hq : ∀ b, pclX c = some b → clsX ((pclX c).getD []) 0 c.length = some c := fun b hb => by
    obtain ⟨h1, h2, h3⟩ := pclX_some hb
    rw [hb, h3]
    refine cls_put c h1 fun x hx => ⟨hc x hx, ?_⟩
    obtain ⟨j, hj, rfl⟩ := List.getElem_of_mem hx
    have := h2 j hj
    unfold nth at this
    rw [List.getD_eq_getElem?_getD, List.getElem?_eq_getElem hj] at this
    exact this
  generalize hAA : (putX l).getD [] = A at *
  generalize hBB : (pclX c).getD [] = B at *
  refine ⟨{ s : Nat × List Int // s.1 ≤ s.2.length ∧ s.2.length = A.length }, fun s => ⟨135, [⟨0, [], .sl 0⟩, ⟨1, [], .sl 1⟩, ⟨5, [], .sl 2⟩, ⟨6, [], .v (.int .i64 (errO (putX l) 2))⟩, ⟨7, [], .sl 3⟩, ⟨9, [], .sl 4⟩, ⟨10, [], .v (.int .i64 (errO (pclX c) 2))⟩, ⟨13, [], .v (.int .i64 (s.1.1 : Int))⟩],
      [.rd Int inferInstance 1 hE l, .rd Int inferInstance 1 bE c, .own 5 Int inferInstance 1 bE s.1.2, .own 5 Int inferInstance 1 bE A, .own 5 Int inferInstance 1 bE B], [], dropL nats 5⟩,
    fun s => A.length - s.1.1, ⟨[0, 1, 2, 3, 4], ⟨(0, A), Nat.zero_le _, rfl⟩, ?_⟩, fun s => ?_⟩
  · exact And.intro (And.intro rfl (And.intro rfl (And.intro rfl (And.intro rfl (And.intro rfl (And.intro rfl (And.intro rfl (And.intro rfl trivial)))))))) (And.intro rfl (And.intro rfl (And.intro rfl (And.intro rfl (And.intro rfl trivial)))))
  obtain ⟨⟨i, a⟩, hi, ha⟩ := s
  have hi : i ≤ a.length := hi
  have ha : a.length = A.length := ha
  refine And.intro (fun hlt => ?_) (fun _ => ?_)
  · have hlt : i < a.length := by have : (i : Int) < (a.length : Int) := of_decide_eq_true hlt
                                  omega
    have hbd : (0 : Int) ≤ (i : Int) ∧ (i : Int) < (a.length : Int) := ⟨by omega, by omega⟩
    refine And.intro hbd ?_
    refine And.intro hbd ?_
    refine ⟨_, rfl, rfl, ?_⟩
    exact ⟨[0, 1, 2, 3, 4], ⟨(i + 1, a.set (i : Int).toNat _), by show i + 1 ≤ _; rw [List.length_set]; exact hlt, by show (a.set _ _).length = _; rw [List.length_set]; exact ha⟩, And.intro (And.intro rfl (And.intro rfl (And.intro rfl (And.intro rfl (And.intro rfl (And.intro rfl (And.intro rfl (And.intro (svI (i64_succ i (by omega))) trivial)))))))) (And.intro rfl (And.intro rfl (And.intro rfl (And.intro rfl (And.intro rfl trivial))))), by show _ - (i + 1) < _ - i; omega⟩
  refine Or.inr (lcall_fresh2 (t := 5) (sz := 1) (enc := bE) A (.int .i64 (errO (putX l) 2)) (fun ρ S w hm => put_o l A hAA _ w (hm.rd 0 rfl rfl)) ?_)
  refine Or.inl ⟨.bool true, fun ρ S w hm => sameb_c A _ _ w (hm.own 5 rfl rfl) (hm.own 3 rfl rfl), ?_⟩
  refine And.intro (fun h => by cases h) (fun _ => ?_)
  refine And.intro (fun h => ?_) (fun h => ?_)
  · have h : errO (putX l) 2 = 0 := of_decide_eq_true h
    obtain ⟨a', ha'⟩ := errO_zero (by decide) h
    obtain ⟨l1, l2, _, _⟩ := putX_some ha'
    refine Or.inr (lcall_frz [.sl 5] rfl (lcall_rep1 (.ptr (rdD A)) (fun ρ S w hm => open_c A _ w S hm.lt (by omega) (hm.rdS 5 rfl rfl)) ?_))
    refine Or.inr (lcall_fresh2 (t := 26) (sz := 1) (enc := hE) l (.int .i64 0) (fun ρ S w hm => cov_o A 0 65536 (by omega) (by decide) _ (hp a' ha') _ w (hm.rp 6 rfl rfl)) ?_)
    refine Or.inl ⟨.bool true, fun _ ρ S w hm => samew_t l _ _ w l2 (hm.own 7 rfl rfl) (hm.rd 0 rfl rfl), ?_⟩
    refine And.intro (fun h => by cases h) (fun _ => ?_)
    refine And.intro (fun h => ?_) (fun h => ?_)
    · have h : errO (pclX c) 2 = 0 := of_decide_eq_true h
      obtain ⟨b', hb'⟩ := errO_zero (by decide) h
      refine Or.inr (lcall_frz [.sl 4] rfl (lcall_rep1 (.ptr (rdD B)) (fun ρ S w hm => open_c B _ w S hm.lt (by omega) (hm.rdS 4 rfl rfl)) ?_))
      refine Or.inr (lcall_fresh2 (t := 5) (sz := 1) (enc := bE) c (.int .i64 0) (fun ρ S w hm => cls_o B 0 _ (by omega) (by decide) _ (hq b' hb') _ w (hm.rp 8 rfl rfl)) ?_)
      refine Or.inl ⟨.bool true, fun _ ρ S w hm => sameb_c c _ _ w (hm.own 9 rfl rfl) (hm.rd 1 rfl rfl), ?_⟩
      refine And.intro (fun h => by cases h) (fun _ => ?_)
      refine Or.inl ⟨.bool true, fun ρ S w hm => works_c w, ?_⟩
      exact fun ρ S w' hi => ⟨rfl, hi.below⟩
    · refine Or.inl ⟨.bool true, fun ρ S w hm => works_c w, ?_⟩
      exact fun ρ S w' hi => ⟨rfl, hi.below⟩
  · refine And.intro (fun h => ?_) (fun h => ?_)
    · have h : errO (pclX c) 2 = 0 := of_decide_eq_true h
      obtain ⟨b', hb'⟩ := errO_zero (by decide) h
      refine Or.inr (lcall_frz [.sl 4] rfl (lcall_rep1 (.ptr (rdD B)) (fun ρ S w hm => open_c B _ w S hm.lt (by omega) (hm.rdS 4 rfl rfl)) ?_))
      refine Or.inr (lcall_fresh2 (t := 5) (sz := 1) (enc := bE) c (.int .i64 0) (fun ρ S w hm => cls_o B 0 _ (by omega) (by decide) _ (hq b' hb') _ w (hm.rp 6 rfl rfl)) ?_)
      refine Or.inl ⟨.bool true, fun _ ρ S w hm => sameb_c c _ _ w (hm.own 7 rfl rfl) (hm.rd 1 rfl rfl), ?_⟩
      refine And.intro (fun h => by cases h) (fun _ => ?_)
      refine Or.inl ⟨.bool true, fun ρ S w hm => works_c w, ?_⟩
      exact fun ρ S w' hi => ⟨rfl, hi.below⟩
    · refine Or.inl ⟨.bool true, fun ρ S w hm => works_c w, ?_⟩
      exact fun ρ S w' hi => ⟨rfl, hi.below⟩
end Go.Proofs.Ytblhmanmniglfaa
