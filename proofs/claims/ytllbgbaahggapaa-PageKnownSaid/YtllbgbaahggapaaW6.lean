/- The walk of PageFills: it returns true for every input; the arguments stay as they are. -/
import Derived.Test.YtllbgbaahggapaaW5
namespace Go.Proofs.Ytllbgbaahggapaa
open Go Go.Eng Go.RowKit

/-- where the work stands between two paragraphs -/
structure OutRel (fs : List Frame) (l : Int) (i : Nat) (s : S3) (acc : List Spot) : Prop where
  pl : PlOk fs s
  pg : s.pg ≤ 65536
  ty : (nth fs s.f).Y ≤ s.t
  tm : s.t ≤ MS
  nil : acc = [] → s = ⟨0, 0, (nth fs 0).Y⟩
  last : acc ≠ [] → SpotOk fs l (nth acc (acc.length - 1)) ∧ s.pg = (nth acc (acc.length - 1)).Pg ∧ (s.f : Int) = (nth acc (acc.length - 1)).F ∧ (nth acc (acc.length - 1)).P < i ∧ s.t = (nth acc (acc.length - 1)).T + l

theorem out_in (fs : List Frame) (l skip : Int) (i : Nat) (n : Int) (s : S3) (acc : List Spot) (h : FsOk fs l) (hskip : 0 ≤ skip ∧ skip ≤ MS) (hn : 0 < n) (hr : OutRel fs l i s acc) : InRel fs l skip i 0 (skipS fs skip n s) acc := by
  have hM := MS_eq
  have hl1 := h.l1
  have ht := hr.tm
  unfold skipS
  by_cases hc : n > 0 ∧ s.t ≠ (nth fs s.f).Y
  · rw [if_pos hc]
    have hty := hr.ty
    have hne : acc ≠ [] := by
      intro e
      have := hr.nil e
      rw [this] at hc; simp at hc
    obtain ⟨h1, h2, h3, h4, h5⟩ := hr.last hne
    have hp1 := hr.pl.p1
    exact ⟨⟨hr.pl.f, by have := hr.pl.t0; show 0 ≤ s.t + skip; omega, by show s.t + skip ≤ _; omega, hr.pl.p0, hp1⟩, hr.pg, by show (nth fs s.f).Y ≤ s.t + skip; omega, fun e => absurd e hne, fun _ => ⟨h1, h2, h3, .inr ⟨by omega, by show s.t + skip = _; omega⟩⟩⟩
  · rw [if_neg hc]
    refine ⟨hr.pl, hr.pg, hr.ty, hr.nil, fun hne => ?_⟩
    exfalso
    apply hc
    refine ⟨hn, ?_⟩
    obtain ⟨h1, h2, h3, h4, h5⟩ := hr.last hne
    have := h1.2.2.1
    have eF : (nth acc (acc.length - 1)).F.toNat = s.f := by omega
    rw [eF] at this
    omega

theorem out_out (fs : List Frame) (l : Int) (i : Nat) (s : S3) (acc : List Spot) (hr : OutRel fs l i s acc) : OutRel fs l (i + 1) s acc :=
  ⟨hr.pl, hr.pg, hr.ty, hr.tm, hr.nil, fun hne => by obtain ⟨h1, h2, h3, h4, h5⟩ := hr.last hne; exact ⟨h1, h2, h3, by omega, h5⟩⟩

theorem in_out (fs : List Frame) (l skip : Int) (i k : Nat) (s : S3) (acc : List Spot) (h : FsOk fs l) (hr : InRel fs l skip i k s acc) (hp : (nextF fs l s).pg < 65536) :
    OutRel fs l (i + 1) ⟨(nextF fs l s).pg, (nextF fs l s).f, (nextF fs l s).t + l⟩ (acc ++ [newSpot fs l i k s]) := by
  have hx := rel_next fs l skip i k s acc h hr hp
  have hn := next_ok fs l s h hr.pl
  refine ⟨hx.pl, hx.pg, hx.ty, hn.2.2.1, hx.nil, fun _ => ?_⟩
  rw [nth_last]
  exact ⟨new_ok fs l skip i k s acc h hr hp, rfl, rfl, by show (i : Int) < ((i + 1 : Nat) : Int); omega, rfl⟩

structure InvK (fs : List Frame) (l skip : Int) (i k : Nat) (n : Int) (s : S3) (acc : List Spot) : Prop where
  lt : (k : Int) < n → InRel fs l skip i k s acc
  ge : (k : Int) ≥ n → OutRel fs l (i + 1) s acc

theorem nth_sum : ∀ (ps : List Int), ps.any (fun n => decide (n < 0)) = false → ∀ i, i < ps.length → nth ps i ≤ sumZ ps
  | [], _, i, hi => absurd hi (by simp)
  | n :: ps, h, 0, _ => by
    simp only [List.any_cons, Bool.or_eq_false_iff] at h
    have := sumZ_nonneg ps h.2
    show n ≤ n + sumZ ps; omega
  | n :: ps, h, i + 1, hi => by
    simp only [List.any_cons, Bool.or_eq_false_iff, decide_eq_false_iff_not] at h
    have := nth_sum ps h.2 i (by simpa using hi)
    have h2 : nth (n :: ps) (i + 1) = nth ps i := rfl
    rw [h2]; simp only [sumZ]; omega

set_option maxHeartbeats 4000000 in
theorem fills_c (fs : List Frame) (l skip : Int) (ps : List Int) (v pv : Value) (w : World) (hlen : ps.length ≤ 9223372036854775807) (hv : Rd w v 4 Frame.enc fs) (hp : Rd w pv 1 iDV ps) :
    Calls Try.prog 3 #[v, .int .i64 l, .int .i64 skip, pv] w fun e w' => e = .returned (.bool true) ∧ Below w.heap.size w w' := by
  refine calls_exec (cf := cf) cfok (fn := Try.f3) Try.func3 rfl [.sl 0, .v (.int .i64 l), .v (.int .i64 skip), .sl 1] [.rd Frame inferInstance 4 Frame.enc fs, .rd Int inferInstance 1 iDV ps] (ρ := fun i => match i with | 0 => v | _ => pv) (· < w.heap.size) rfl rfl rfl (by simp [svOkL, svOk]) (memRd (fun _ h => h) ⟨hv, hp, trivial⟩) ?_
  refine Or.inl ⟨_, fun ρ S w' hm => many_c ps _ w' (hm.rd 1 rfl rfl), ?_⟩
  refine And.intro (fun _ => ?_) (fun _ => ?_)
  · refine Or.inl ⟨.bool true, fun ρ S w' hm => works_c w', ?_⟩
    exact fun ρ S w' hi => ⟨rfl, hi.below⟩
  refine Or.inr (lcall_fresh2 (placeF fs l skip ps).1 (.int .i64 (placeF fs l skip ps).2) (fun ρ S w hm => place_a fs l skip ps _ _ w hlen (hm.rd 0 rfl rfl) (hm.rd 1 rfl rfl)) ?_)
  have hpl := placeF_len fs l skip ps
  refine And.intro (fun hT => ?_) (fun hF => ?_)
  · have hT : (placeF fs l skip ps).2 ≠ 0 := by simpa using hT
    have hnil := placeF_err fs l skip ps hT
    refine Or.inl ⟨.bool true, fun _ ρ S w' hm => works_c w', ?_⟩
    refine fun ρ S w' hi => ⟨?_, hi.below⟩
    show Ending.returned (.bool (decide (((placeF fs l skip ps).1.length : Int) = 0) && true)) = _
    rw [hnil]; rfl
  have hF : (placeF fs l skip ps).2 = 0 := by simpa using hF
  obtain ⟨hok, hsk, hany, hrest, hout⟩ := placeF_good fs l skip ps hF
  have hok := (okF_iff fs l).1 hok
  have hsk : 0 ≤ skip ∧ skip ≤ MS := by simpa [inR] using hsk
  have hM := MS_eq
  generalize (placeF fs l skip ps).1 = out at hpl hout
  have hsum := rest_sum ps 16777216 (by omega) hrest
  refine ⟨{ x : Nat × S3 × List Spot // x.1 ≤ ps.length ∧ parasF fs l skip (ps.drop x.1) x.1 x.2.1 x.2.2 = some out ∧ OutRel fs l x.1 x.2.1 x.2.2 },
    fun x => ⟨162, [⟨0, [], .sl 0⟩, ⟨1, [], .v (.int .i64 l)⟩, ⟨2, [], .v (.int .i64 skip)⟩, ⟨3, [], .sl 1⟩, ⟨9, [], .sl 2⟩, ⟨11, [], .v (.int .i64 x.1.2.2.length)⟩, ⟨12, [], .v (.int .i64 x.1.1)⟩], [.rd Frame inferInstance 4 Frame.enc fs, .rd Int inferInstance 1 iDV ps, .own 31 Spot inferInstance 5 Spot.enc out], [], dropL nats 3⟩,
    fun x => ps.length - x.1.1, ⟨[0, 1, 2], ⟨(0, ⟨0, 0, (nth fs 0).Y⟩, []), ?_⟩, ?_⟩, fun x => ?_⟩
  · have q := hok.fr 0 hok.n1
    have ql := hok.l1
    exact ⟨by show 0 ≤ _; omega, hout, ⟨⟨hok.n1, by show 0 ≤ (nth fs 0).Y; omega, by show (nth fs 0).Y ≤ _; omega, by show (0 : Int) ≤ 0; omega, by show (0 : Int) ≤ _; omega⟩, by show (0 : Int) ≤ _; omega, Int.le_refl _, by show (nth fs 0).Y ≤ _; omega, fun _ => rfl, fun h => absurd rfl h⟩⟩
  · exact And.intro (And.intro rfl (And.intro rfl (And.intro rfl (And.intro rfl (And.intro rfl (And.intro rfl (And.intro rfl trivial))))))) (And.intro rfl (And.intro rfl (And.intro rfl trivial)))
  obtain ⟨⟨i, s, acc⟩, hi, hpf, hor⟩ := x
  simp only at hi hpf hor
  refine And.intro (fun hlt => ?_) (fun hge => ?_)
  · have hlt : i < ps.length := by simpa using hlt
    have hn := any_nth ps hany i hlt
    have hnm := nth_sum ps hany i hlt
    rw [drop_nth ps i hlt] at hpf
    have hgo : goOn fs l skip ps i 0 (skipS fs skip (nth ps i) s) acc = some out := hpf
    refine ⟨{ x : Nat × S3 × List Spot // (x.1 : Int) ≤ nth ps i ∧ goOn fs l skip ps i x.1 x.2.1 x.2.2 = some out ∧ InvK fs l skip i x.1 (nth ps i) x.2.1 x.2.2 },
      fun x => ⟨162, [⟨0, [], .sl 0⟩, ⟨1, [], .v (.int .i64 l)⟩, ⟨2, [], .v (.int .i64 skip)⟩, ⟨3, [], .sl 1⟩, ⟨9, [], .sl 2⟩, ⟨11, [], .v (.int .i64 x.1.2.2.length)⟩, ⟨12, [], .v (.int .i64 i)⟩, ⟨13, [], .v (.int .i64 x.1.1)⟩], [.rd Frame inferInstance 4 Frame.enc fs, .rd Int inferInstance 1 iDV ps, .own 31 Spot inferInstance 5 Spot.enc out], [], dropL nats 3⟩,
      fun x => (nth ps i).toNat - x.1.1, ⟨[0, 1, 2], ⟨(0, skipS fs skip (nth ps i) s, acc), ?_⟩, ?_⟩, fun x => ?_⟩
    · refine ⟨by show (0 : Int) ≤ _; omega, hgo, ⟨fun h => out_in fs l skip i _ s acc hok hsk (by simpa using h) hor, fun h => ?_⟩⟩
      have hz : skipS fs skip (nth ps i) s = s := by unfold skipS; rw [if_neg]; intro hc; have := hc.1; have h : ((0 : Nat) : Int) ≥ nth ps i := h; omega
      show OutRel fs l (i + 1) (skipS fs skip (nth ps i) s) acc
      rw [hz]
      exact out_out fs l i s acc hor
    · exact And.intro (And.intro rfl (And.intro rfl (And.intro rfl (And.intro rfl (And.intro rfl (And.intro rfl (And.intro rfl (And.intro rfl trivial)))))))) (And.intro rfl (And.intro rfl (And.intro rfl trivial)))
    obtain ⟨⟨k, s, acc⟩, hk, hgo, hik⟩ := x
    simp only at hk hgo hik
    refine And.intro ⟨by omega, by simpa using hlt⟩ ?_
    refine And.intro (fun hltk => ?_) (fun hgek => ?_)
    · have hltk : (k : Int) < nth ps i := by simpa using hltk
      have hir := hik.lt hltk
      obtain ⟨hpg, hgo', hal, hnew, hpre⟩ := goOn_step fs l skip ps i k s acc out (by omega) hgo
      have hso := new_ok fs l skip i k s acc hok hir hpg
      refine And.intro (fun _ => ⟨by omega, by simpa using hal⟩) ?_
      refine And.intro (fun _ => ⟨by omega, by simpa using hal⟩) ?_
      refine And.intro (fun hbad => ?_) (fun _ => ?_)
      · exfalso
        have hbad : ((decide ((acc.length : Int) ≥ out.length) || !decide ((nth out acc.length).P = i)) || !decide ((nth out acc.length).L = k)) = true := hbad
        rw [hnew] at hbad
        simp [newSpot] at hbad
        omega
      refine And.intro ⟨by omega, by simpa using hal⟩ ?_
      have hF0 : 0 ≤ (nth out acc.length).F := by rw [hnew]; exact hso.1
      have hF1 : (nth out acc.length).F < fs.length := by rw [hnew]; exact hso.2.1
      refine Or.inl ⟨by kernel_rfl, ?_⟩
      refine And.intro (fun _ => ⟨hF0, hF1⟩) ?_
      refine And.intro (fun _ => ⟨hF0, hF1⟩) ?_
      refine And.intro (fun _ => ⟨hF0, hF1⟩) ?_
      refine And.intro (fun hbad => ?_) (fun _ => ?_)
      · exfalso
        have hbad : (((decide ((nth out acc.length).F < 0) || decide ((nth out acc.length).F ≥ fs.length)) || decide ((nth out acc.length).T < (nth fs (nth out acc.length).F.toNat).Y)) ||
          decide (w64 ((nth out acc.length).T + l) > w64 ((nth fs (nth out acc.length).F.toNat).Y + (nth fs (nth out acc.length).F.toNat).H))) = true := hbad
        rw [hnew] at hbad
        obtain ⟨s1, s2, s3, s4, s5, s6⟩ := hso
        have q := hok.fr (newSpot fs l i k s).F.toNat (by omega)
        have ql := hok.l1
        have e1 : w64 ((newSpot fs l i k s).T + l) = (newSpot fs l i k s).T + l := i64_id _ (by omega) (by omega)
        have e2 : w64 ((nth fs (newSpot fs l i k s).F.toNat).Y + (nth fs (newSpot fs l i k s).F.toNat).H) = (nth fs (newSpot fs l i k s).F.toNat).Y + (nth fs (newSpot fs l i k s).F.toNat).H := i64_id _ (by omega) (by omega)
        rw [e1, e2] at hbad
        simp only [Bool.or_eq_true, decide_eq_true_eq] at hbad
        omega
      refine Or.inl ⟨by kernel_rfl, ?_⟩
      have hw1 : acc.length > 0 → IntKind.i64.wrap ((acc.length : Int) - 1) = ((acc.length - 1 : Nat) : Int) := fun h => (i64_id _ (by omega) (by omega)).trans (by omega)
      have ea : acc.length > 0 → nth out (IntKind.i64.wrap ((acc.length : Int) - 1)).toNat = nth acc (acc.length - 1) := fun h => by
        rw [hw1 h, Int.toNat_natCast]; exact hpre _ (by omega)
      have hne : acc.length > 0 → acc ≠ [] := fun h e => by rw [e] at h; exact absurd h (by simp)
      refine And.intro (fun _ _ => ⟨by omega, by have := hok.n1; omega⟩) ?_
      refine And.intro (fun h1 _ => (show 0 ≤ IntKind.i64.wrap ((acc.length : Int) - 1) ∧ IntKind.i64.wrap ((acc.length : Int) - 1) < (out.length : Int) from by
        have h : (acc.length : Int) > 0 := of_decide_eq_true h1
        rw [hw1 (by omega)]; omega)) ?_
      refine ⟨.bool true, fun h1 _ ρ S w' hm => ?_, ?_⟩
      · have h : (acc.length : Int) > 0 := of_decide_eq_true h1
        have h : acc.length > 0 := by omega
        obtain ⟨h2, _⟩ := hir.last (hne h)
        have hf := follows_c fs l skip (nth out (IntKind.i64.wrap ((acc.length : Int) - 1)).toNat) (nth out acc.length) _ w' (hm.rd 0 rfl rfl) (by rw [ea h]; exact ⟨h2.1, h2.2.1⟩) ⟨hF0, hF1⟩
        rw [show followsF fs l skip (nth out (IntKind.i64.wrap ((acc.length : Int) - 1)).toNat) (nth out acc.length) = true by
          rw [ea h, hnew]; exact follows_ok fs l skip i k s acc hok hsk hir (hne h) hpg] at hf
        exact hf
      refine And.intro (fun hbad => ?_) (fun _ => ?_)
      · exfalso
        have hbad : ((decide ((acc.length : Int) = 0) && ((!decide ((nth out acc.length).Pg = 0) || !decide ((nth out acc.length).F = 0)) || !decide ((nth out acc.length).T = (nth fs 0).Y))) ||
          (decide ((acc.length : Int) > 0) && !true)) = true := hbad
        rw [hnew] at hbad
        by_cases h0 : acc = []
        · have hs := hir.nil h0
          have hn0 : nextF fs l s = s := by
            have q := hok.fr 0 hok.n1
            unfold nextF; rw [if_pos]; rw [hs]; simp only [fit, decide_eq_true_eq]; omega
          simp only [newSpot, hn0] at hbad
          rw [hs] at hbad
          simp at hbad
        · have : acc.length ≠ 0 := fun e => h0 (List.length_eq_zero_iff.1 e)
          simp at hbad
          exact h0 hbad.1
      · refine ⟨[0, 1, 2], ⟨(k + 1, ⟨(nextF fs l s).pg, (nextF fs l s).f, (nextF fs l s).t + l⟩, acc ++ [newSpot fs l i k s]), by show ((k + 1 : Nat) : Int) ≤ _; omega, hgo', ⟨fun _ => rel_next fs l skip i k s acc hok hir hpg, fun _ => in_out fs l skip i k s acc hok hir hpg⟩⟩,
          And.intro (And.intro rfl (And.intro rfl (And.intro rfl (And.intro rfl (And.intro rfl (And.intro (sv_i64 ((i64_succ acc.length (by omega)).trans (by simp))) (And.intro rfl (And.intro (sv_i64 (i64_succ k (by omega))) trivial)))))))) (And.intro rfl (And.intro rfl (And.intro rfl trivial))), by show _ - (k + 1) < _ - k; omega⟩
    · have hgek : ¬ (k : Int) < nth ps i := by simpa using hgek
      have hkn : (nth ps i).toNat - k = 0 := by omega
      unfold goOn at hgo
      rw [hkn] at hgo
      simp only [linesF] at hgo
      refine ⟨[0, 1, 2], ⟨(i + 1, s, acc), hlt, hgo, hik.ge (by omega)⟩, And.intro (And.intro rfl (And.intro rfl (And.intro rfl (And.intro rfl (And.intro rfl (And.intro rfl (And.intro (sv_i64 (i64_succ i (by omega))) trivial))))))) (And.intro rfl (And.intro rfl (And.intro rfl trivial))), by show _ - (i + 1) < _ - i; omega⟩
  · have hge : i = ps.length := by have : ¬ i < ps.length := by simpa using hge
                                   omega
    rw [hge, List.drop_length] at hpf
    simp only [parasF, Option.some.injEq] at hpf
    refine Or.inl ⟨.bool true, fun _ ρ S w' hm => works_c w', ?_⟩
    refine fun ρ S w' hi => ⟨?_, hi.below⟩
    show Ending.returned (.bool (decide (((acc.length : Nat) : Int) = out.length) && true)) = _
    rw [hpf]; simp
end Go.Proofs.Ytllbgbaahggapaa
