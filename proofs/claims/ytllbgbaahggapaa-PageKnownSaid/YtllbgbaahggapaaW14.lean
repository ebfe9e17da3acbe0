/- What the reference's Place computes, for every input: the same as page.Place. -/
import Derived.Test.YtllbgbaahggapaaW13
namespace Go.Proofs.Ytllbgbaahggapaa
open Go Go.Eng Go.RowKit

def PlaceR2 (w : World) (r : List Spot × Int) (e : Ending) (w' : World) : Prop :=
  ∃ v, e = .returned (.tuple #[v, .int .i64 r.2]) ∧ Below w.heap.size w w' ∧ Fresh w w' v 42 5 Spot.enc r.1

theorem next_top (fs : List Frame) (l : Int) (s : S3) (ht : (nth fs s.f).Y ≤ s.t) : (nth fs (nextF fs l s).f).Y ≤ (nextF fs l s).t := by
  unfold nextF
  split
  · exact ht
  · unfold stepS
    split
    · exact Int.le_refl _
    · exact Int.le_refl _

set_option maxHeartbeats 4000000 in
theorem place_r (fs : List Frame) (l skip : Int) (ps : List Int) (v pv : Value) (w : World) (hlen : ps.length ≤ 9223372036854775807) (hv : Rd w v 4 Frame.enc fs) (hp : Rd w pv 1 iDV ps) :
    Calls Try.prog 25 #[v, .int .i64 l, .int .i64 skip, pv] w (PlaceR2 w (placeF fs l skip ps)) := by
  refine calls_exec (cf := cf) cfok (fn := Try.f25) Try.func25 rfl [.sl 0, .v (.int .i64 l), .v (.int .i64 skip), .sl 1] [.rd Frame inferInstance 4 Frame.enc fs, .rd Int inferInstance 1 iDV ps] (ρ := fun i => match i with | 0 => v | _ => pv) (· < w.heap.size) rfl rfl rfl (by simp [svOkL, svOk]) (memRd (fun _ h => h) ⟨hv, hp, trivial⟩) ?_
  refine Or.inl ⟨_, fun ρ S w' hm => ref_right_c fs l _ w' (hm.rd 0 rfl rfl), ?_⟩
  refine Or.inl ⟨_, fun _ ρ S w' hm => in2_c _ _ _ _, ?_⟩
  refine And.intro (fun hbad => ?_) (fun hgood => ?_)
  · refine fun ρ S w' hi => ?_
    unfold placeF
    rw [if_pos hbad]
    exact ⟨_, rfl, hi.below, Fresh.nil _ _ _ _ _⟩
  have hgood : (!okF fs l || !inR skip 0 MS) = false := hgood
  refine ⟨{ i : Nat // i ≤ ps.length ∧ ∀ j, j < i → decide (nth ps j < 0) = false },
    fun i => ⟨122, [⟨0, [], .sl 0⟩, ⟨1, [], .v (.int .i64 l)⟩, ⟨2, [], .v (.int .i64 skip)⟩, ⟨3, [], .sl 1⟩, ⟨10, [], .v (.int .i64 0)⟩, ⟨11, [], .v (.int .i64 i.1)⟩], [.rd Frame inferInstance 4 Frame.enc fs, .rd Int inferInstance 1 iDV ps], [], dropL nats 2⟩,
    fun i => ps.length - i.1, ⟨[0, 1], ⟨0, by omega, fun j hj => by omega⟩, ?_⟩, fun i => ?_⟩
  · exact And.intro (And.intro rfl (And.intro rfl (And.intro rfl (And.intro rfl (And.intro rfl (And.intro rfl trivial)))))) (And.intro rfl (And.intro rfl trivial))
  obtain ⟨i, hi, hall⟩ := i
  refine And.intro (fun hlt => ?_) (fun hgeD => ?_)
  · have hlt : i < ps.length := by simpa using hlt
    refine And.intro (show (0 : Int) ≤ (i : Int) ∧ (i : Int) < (ps.length : Int) from ⟨by omega, by omega⟩) ?_
    refine And.intro (fun hneg => ?_) (fun hpos => ?_)
    · refine fun ρ S w' hi' => ?_
      have hneg : decide (nth ps i < 0) = true := hneg
      unfold placeF
      rw [if_neg (by rw [hgood]; simp), any_drop ps _ i hi hall, drop_nth ps i hlt, if_pos (by simp only [List.any_cons, hneg, Bool.true_or])]
      exact ⟨_, rfl, hi'.below, Fresh.nil _ _ _ _ _⟩
    · refine ⟨[0, 1], ⟨i + 1, hlt, fun j hj => ?_⟩, And.intro (And.intro rfl (And.intro rfl (And.intro rfl (And.intro rfl (And.intro rfl (And.intro (sv_i64 (i64_succ i (by omega))) trivial)))))) (And.intro rfl (And.intro rfl trivial)), by show _ - (i + 1) < _ - i; omega⟩
      by_cases e : j = i
      · subst e; exact hpos
      · exact hall j (by omega)
  have hge : i = ps.length := by have : ¬ i < ps.length := by simpa using hgeD
                                 omega
  have hany : ps.any (fun n => decide (n < 0)) = false := by
    rw [any_drop ps _ i hi hall, hge, List.drop_length]; rfl
  refine ⟨{ x : Nat × Int // x.1 ≤ ps.length ∧ restBad (16777216 - x.2) (ps.drop x.1) = restBad 16777216 ps ∧ 0 ≤ x.2 ∧ x.2 ≤ 16777216 ∧ sumZ ps = x.2 + sumZ (ps.drop x.1) },
    fun x => ⟨122, [⟨0, [], .sl 0⟩, ⟨1, [], .v (.int .i64 l)⟩, ⟨2, [], .v (.int .i64 skip)⟩, ⟨3, [], .sl 1⟩, ⟨10, [], .v (.int .i64 x.1.2)⟩, ⟨12, [], .v (.int .i64 x.1.1)⟩], [.rd Frame inferInstance 4 Frame.enc fs, .rd Int inferInstance 1 iDV ps], [], dropL nats 2⟩,
    fun x => ps.length - x.1.1, ⟨[0, 1], ⟨(0, 0), by simp⟩, ?_⟩, fun x => ?_⟩
  · exact And.intro (And.intro rfl (And.intro rfl (And.intro rfl (And.intro rfl (And.intro rfl (And.intro rfl trivial)))))) (And.intro rfl (And.intro rfl trivial))
  obtain ⟨⟨i, r⟩, hi, hrb, hr0, hr1, hsum⟩ := x
  simp only at hi hrb hr0 hr1 hsum
  refine And.intro (fun hlt => ?_) (fun hgeD => ?_)
  · have hlt : i < ps.length := by simpa using hlt
    have hn := any_nth ps hany i hlt
    have hb : (0 : Int) ≤ (i : Int) ∧ (i : Int) < (ps.length : Int) := ⟨by omega, by omega⟩
    have e0 : IntKind.i64.wrap (16777216 - r) = 16777216 - r := i64_id _ (by omega) (by omega)
    refine And.intro hb ?_
    refine And.intro (fun hbig => ?_) (fun hsm => ?_)
    · have hbig : nth ps i > IntKind.i64.wrap (16777216 - r) := of_decide_eq_true hbig
      rw [e0] at hbig
      refine fun ρ S w' hi' => ?_
      unfold placeF
      rw [if_neg (by rw [hgood]; simp), if_neg (by rw [hany]; simp), if_pos (by rw [← hrb, drop_nth ps i hlt]; simp only [restBad]; rw [if_pos hbig])]
      exact ⟨_, rfl, hi'.below, Fresh.nil _ _ _ _ _⟩
    · have hsm : ¬ nth ps i > IntKind.i64.wrap (16777216 - r) := of_decide_eq_false hsm
      rw [e0] at hsm
      have e1 : IntKind.i64.wrap (r + nth ps i) = r + nth ps i := i64_id _ (by omega) (by omega)
      refine And.intro hb ?_
      refine ⟨[0, 1], ⟨(i + 1, r + nth ps i), hlt, ?_, ?_, ?_, ?_⟩, And.intro (And.intro rfl (And.intro rfl (And.intro rfl (And.intro rfl (And.intro (sv_i64 e1) (And.intro (sv_i64 (i64_succ i (by omega))) trivial)))))) (And.intro rfl (And.intro rfl trivial)), by show _ - (i + 1) < _ - i; omega⟩
      · rw [← hrb, drop_nth ps i hlt]; simp only [restBad]; rw [if_neg hsm, show 16777216 - (r + nth ps i) = 16777216 - r - nth ps i by omega]
      · show 0 ≤ r + nth ps i; omega
      · show r + nth ps i ≤ 16777216; omega
      · rw [drop_nth ps i hlt] at hsum; simp only [sumZ] at hsum; show sumZ ps = (r + nth ps i) + sumZ (ps.drop (i + 1)); omega
  have hge : i = ps.length := by have : ¬ i < ps.length := by simpa using hgeD
                                 omega
  have hrest : restBad 16777216 ps = false := by rw [← hrb, hge, List.drop_length]; simp only [restBad]
  have htot : sumZ ps ≤ 16777216 := by rw [hsum, hge, List.drop_length]; simp only [sumZ]; omega
  have hok : FsOk fs l := (okF_iff fs l).1 (by cases h : okF fs l <;> simp_all)
  have hskip : 0 ≤ skip ∧ skip ≤ MS := by
    have : inR skip 0 MS = true := by cases h : inR skip 0 MS <;> simp_all
    simpa [inR] using this
  have hM := MS_eq
  have hl1 := hok.l1
  have hl2 := hok.l2
  have hn1 := hok.n1
  have hF : placeF fs l skip ps = (match parasF fs l skip ps 0 ⟨0, 0, (nth fs 0).Y⟩ [] with | some acc => (acc, 0) | none => ([], 3)) := by
    unfold placeF
    rw [if_neg (by rw [hgood]; simp), if_neg (by rw [hany]; simp), if_neg (by rw [hrest]; simp)]
    cases parasF fs l skip ps 0 ⟨0, 0, (nth fs 0).Y⟩ [] <;> rfl
  rw [hF]
  refine And.intro (show (0 : Int) ≤ 0 ∧ (0 : Int) < (fs.length : Int) from ⟨by omega, by omega⟩) ?_
  refine ⟨{ x : Nat × Int × Int × S3 × List Spot // x.1 ≤ ps.length ∧ parasF fs l skip (ps.drop x.1) x.1 x.2.2.2.1 x.2.2.2.2 = parasF fs l skip ps 0 ⟨0, 0, (nth fs 0).Y⟩ [] ∧
      (x.2.2.2.2.length : Int) + sumZ (ps.drop x.1) ≤ 16777216 ∧ x.2.2.2.1.f < fs.length ∧ 0 ≤ x.2.2.2.1.t ∧ x.2.2.2.1.t ≤ MS ∧ 0 ≤ x.2.2.2.1.pg ∧ x.2.2.2.1.pg ≤ 65536 ∧ (nth fs x.2.2.2.1.f).Y ≤ x.2.2.2.1.t ∧ (x.2.2.2.2 = [] → x.2.2.2.1.t = (nth fs x.2.2.2.1.f).Y) },
    fun x => ⟨122, [⟨0, [], .sl 0⟩, ⟨1, [], .v (.int .i64 l)⟩, ⟨2, [], .v (.int .i64 skip)⟩, ⟨3, [], .sl 1⟩, ⟨13, [], .sl 3⟩, ⟨14, [], .bx 2 0⟩, ⟨15, [], .v (.int .i64 x.1.1)⟩],
      [.rd Frame inferInstance 4 Frame.enc fs, .rd Int inferInstance 1 iDV ps, .bx 42 (cellsOf (at' x.1.2.1 x.1.2.2.1 x.1.2.2.2.1).sv), .own 42 Spot inferInstance 5 Spot.enc x.1.2.2.2.2], [], dropL nats 4⟩,
    fun x => ps.length - x.1.1, ⟨[0, 1, 2, 1000], ⟨(0, 0, 0, ⟨0, 0, (nth fs 0).Y⟩, []), ?_⟩, ?_⟩, fun x => ?_⟩
  · have := hok.fr 0 (by omega)
    exact ⟨by omega, rfl, by simpa using htot, by show 0 < fs.length; omega, by show 0 ≤ (nth fs 0).Y; omega, by show (nth fs 0).Y ≤ MS; omega, by show (0 : Int) ≤ 0; omega, by show (0 : Int) ≤ 65536; omega, Int.le_refl _, fun _ => rfl⟩
  · exact And.intro (And.intro rfl (And.intro rfl (And.intro rfl (And.intro rfl (And.intro rfl (And.intro rfl (And.intro rfl trivial))))))) (And.intro rfl (And.intro rfl (And.intro (And.intro rfl rfl) (And.intro rfl trivial))))
  obtain ⟨⟨i, P, L, s, acc⟩, hi, hpf, hcnt, hsf, ht0, ht1, hp0, hp1, htY, hemp⟩ := x
  simp only at hi hpf hcnt hsf ht0 ht1 hp0 hp1 htY hemp
  refine And.intro (fun hlt => ?_) (fun hgeD => ?_)
  rotate_left
  · have hge : i = ps.length := by have : ¬ i < ps.length := by simpa using hgeD
                                   omega
    rw [hge, List.drop_length] at hpf
    simp only [parasF] at hpf
    refine fun ρ S w' hi' => ?_
    rw [← hpf]
    exact ⟨_, rfl, hi'.below, hi'.fresh 3 Spot_flat rfl rfl⟩
  have hlt : i < ps.length := by simpa using hlt
  have hb : (0 : Int) ≤ (i : Int) ∧ (i : Int) < (ps.length : Int) := ⟨by omega, by omega⟩
  have hbf : (0 : Int) ≤ (s.f : Int) ∧ (s.f : Int) < (fs.length : Int) := ⟨by omega, by omega⟩
  refine Or.inl ⟨by kernel_rfl, ?_⟩
  refine And.intro (fun _ => hb) ?_
  refine And.intro (fun _ => hbf) ?_
  have hn := any_nth ps hany i hlt
  have hnb : nth ps i + sumZ (ps.drop (i + 1)) + acc.length ≤ 16777216 := by
    rw [drop_nth ps i hlt] at hcnt; simp only [sumZ] at hcnt; omega
  have hnb' := sumZ_nonneg _ (any_dropf ps hany (i + 1))
  have hsk := skip_ok fs skip (nth ps i) s
  have hpf' : parasF fs l skip (ps.drop i) i s acc = (match linesF fs l i (nth ps i).toNat 0 (skipS fs skip (nth ps i) s) acc with | some (s', acc') => parasF fs l skip (ps.drop (i + 1)) (i + 1) s' acc' | none => none) := by
    rw [drop_nth ps i hlt]; rfl
  rw [hpf'] at hpf
  have hskY : (nth fs (skipS fs skip (nth ps i) s).f).Y ≤ (skipS fs skip (nth ps i) s).t := by
    rw [hsk.1]; rcases hsk.2.2 with h | ⟨_, h⟩ <;> omega
  have hsc : ∀ (n : Int), (((decide ((acc.length : Int) > 0) && decide (n > 0)) && decide (s.t > (nth fs s.f).Y)) = true ↔ (n > 0 ∧ s.t ≠ (nth fs s.f).Y)) := fun n => by
    simp only [Bool.and_eq_true, decide_eq_true_eq]
    constructor
    · rintro ⟨⟨_, h2⟩, h3⟩; exact ⟨h2, by omega⟩
    · rintro ⟨h2, h3⟩
      refine ⟨⟨?_, h2⟩, by omega⟩
      cases acc with
      | nil => exact absurd (hemp rfl) h3
      | cons => simp
  have qT : ((decide ((acc.length : Int) > 0) && decide ((nth ps i : Int) > 0)) && decide (s.t > (nth fs s.f).Y)) = true → cellsOf (at' P L ⟨s.pg, s.f, IntKind.i64.wrap (s.t + skip)⟩).sv = cellsOf (at' P L (skipS fs skip (nth ps i) s)).sv := by
    intro h
    have h := (hsc _).1 h
    rw [i64_id (s.t + skip) (by omega) (by omega)]
    unfold skipS; rw [if_pos h]
  have qF : ((decide ((acc.length : Int) > 0) && decide ((nth ps i : Int) > 0)) && decide (s.t > (nth fs s.f).Y)) = false → cellsOf (at' P L s).sv = cellsOf (at' P L (skipS fs skip (nth ps i) s)).sv := by
    intro h
    have h : ¬ (nth ps i > 0 ∧ s.t ≠ (nth fs s.f).Y) := fun hh => by rw [(hsc _).2 hh] at h; cases h
    unfold skipS; rw [if_neg h]
  refine And.intro (fun hsT => ?_) (fun hsF => ?_)
  all_goals
    refine ⟨{ x : Nat × Int × Int × S3 × List Spot // (x.1 : Int) ≤ nth ps i ∧ linesF fs l i ((nth ps i).toNat - x.1) x.1 x.2.2.2.1 x.2.2.2.2 = linesF fs l i (nth ps i).toNat 0 (skipS fs skip (nth ps i) s) acc ∧
        x.2.2.2.2.length = acc.length + x.1 ∧ PlOk fs x.2.2.2.1 ∧ x.2.2.2.1.pg ≤ 65536 ∧ (x.2.2.2.1.t ≤ MS ∨ x.1 < nth ps i) ∧ (nth fs x.2.2.2.1.f).Y ≤ x.2.2.2.1.t ∧ (x.1 = 0 → x.2.2.2.1 = skipS fs skip (nth ps i) s) },
      fun x => ⟨122, [⟨0, [], .sl 0⟩, ⟨1, [], .v (.int .i64 l)⟩, ⟨2, [], .v (.int .i64 skip)⟩, ⟨3, [], .sl 1⟩, ⟨13, [], .sl 3⟩, ⟨14, [], .bx 2 0⟩, ⟨15, [], .v (.int .i64 i)⟩, ⟨16, [], .v (.int .i64 x.1.1)⟩],
        [.rd Frame inferInstance 4 Frame.enc fs, .rd Int inferInstance 1 iDV ps, .bx 42 (cellsOf (at' x.1.2.1 x.1.2.2.1 x.1.2.2.2.1).sv), .own 42 Spot inferInstance 5 Spot.enc x.1.2.2.2.2], [], dropL nats 4⟩,
      fun x => (nth ps i).toNat - x.1.1, ⟨[0, 1, 2, 3], ⟨(0, P, L, skipS fs skip (nth ps i) s, acc), ?_⟩, ?_⟩, fun x => ?_⟩
    · have q1 := hok.fr s.f hsf
      refine ⟨by show (0 : Int) ≤ _; omega, rfl, rfl, ⟨?_, ?_, ?_, ?_, ?_⟩, ?_, ?_, hskY, fun _ => rfl⟩
      · show (skipS fs skip (nth ps i) s).f < _; omega
      · show 0 ≤ (skipS fs skip (nth ps i) s).t; omega
      · show (skipS fs skip (nth ps i) s).t ≤ _; omega
      · show 0 ≤ (skipS fs skip (nth ps i) s).pg; omega
      · show (skipS fs skip (nth ps i) s).pg ≤ _; omega
      · show (skipS fs skip (nth ps i) s).pg ≤ _; omega
      · show (skipS fs skip (nth ps i) s).t ≤ _ ∨ (0 : Int) < _; omega
    · exact And.intro (And.intro rfl (And.intro rfl (And.intro rfl (And.intro rfl (And.intro rfl (And.intro rfl (And.intro rfl (And.intro rfl trivial)))))))) (And.intro rfl (And.intro rfl (And.intro (And.intro rfl (by first | exact qT hsT | exact qF hsF)) (And.intro rfl trivial))))
    · obtain ⟨⟨k, P, L, s2, acc'⟩, hk, hln, hlen', hpl, hpg, htk, htY2, hz⟩ := x
      simp only at hk hln hlen' hpl hpg htk htY2 hz
      refine And.intro hb ?_
      refine And.intro (fun hltk => ?_) (fun hgek => ?_)
      · have hltk : (k : Int) < nth ps i := of_decide_eq_true hltk
        have hnx := next_ok fs l s2 hok hpl
        have hp0' := hpl.p0
        refine Or.inl ⟨(at' P L (nextF fs l s2)).val, fun ρ S w' hm => next_c fs l P L s2 _ w' hok hpl (hm.rd 0 rfl rfl), ?_⟩
        refine And.intro (fun hout => ?_) (fun hin => ?_)
        · have hout : (nextF fs l s2).pg ≥ 65536 := of_decide_eq_true (show decide ((nextF fs l s2).pg ≥ 65536) = true from hout)
          refine fun ρ S w' hi' => ?_
          rw [← hpf, ← hln, show (nth ps i).toNat - k = ((nth ps i).toNat - (k + 1)) + 1 by omega]
          simp only [linesF, putL]
          rw [if_neg (by omega)]
          exact ⟨_, rfl, hi'.below, Fresh.nil _ _ _ _ _⟩
        · have hin : ¬ (nextF fs l s2).pg ≥ 65536 := of_decide_eq_false (show decide ((nextF fs l s2).pg ≥ 65536) = false from hin)
          have hnx1 := hnx.1
          have hty := next_top fs l s2 htY2
          refine ⟨[(⟨i, k, (nextF fs l s2).pg, (nextF fs l s2).f, (nextF fs l s2).t⟩ : Spot)], ?_, ?_, ?_⟩
          · exact And.intro rfl (And.intro rfl (fun y hy => by rw [List.mem_singleton.1 hy]; rfl))
          · show (acc'.length + 1) * 40 ≤ 140737488355328; omega
          have hwt : IntKind.i64.wrap ((nextF fs l s2).t + l) = (nextF fs l s2).t + l := i64_id _ (by omega) (by omega)
          refine ⟨[0, 1, 2, 5], ⟨(k + 1, i, k, ⟨(nextF fs l s2).pg, (nextF fs l s2).f, (nextF fs l s2).t + l⟩, acc' ++ [⟨i, k, (nextF fs l s2).pg, (nextF fs l s2).f, (nextF fs l s2).t⟩]), ?_, ?_, ?_, ⟨?_, ?_, ?_, ?_, ?_⟩, ?_, ?_, ?_, fun h => absurd h (Nat.succ_ne_zero k)⟩, ?_, ?_⟩
          · show ((k + 1 : Nat) : Int) ≤ _; omega
          · rw [← hln, show (nth ps i).toNat - k = ((nth ps i).toNat - (k + 1)) + 1 by omega]
            simp only [linesF, putL]
            rw [if_pos (by omega)]
          · show (acc' ++ [_]).length = acc.length + (k + 1)
            rw [List.length_append, hlen']; rfl
          · exact hnx.1
          · show 0 ≤ (nextF fs l s2).t + l; omega
          · show (nextF fs l s2).t + l ≤ _; omega
          · show 0 ≤ (nextF fs l s2).pg; omega
          · show (nextF fs l s2).pg ≤ _; omega
          · show (nextF fs l s2).pg ≤ _; omega
          · exact Or.inl hnx.2.2.1
          · show (nth fs (nextF fs l s2).f).Y ≤ (nextF fs l s2).t + l; omega
          · refine And.intro (And.intro rfl (And.intro rfl (And.intro rfl (And.intro rfl (And.intro rfl (And.intro rfl (And.intro rfl (And.intro (sv_i64 (i64_succ k (by omega))) trivial)))))))) (And.intro rfl (And.intro rfl (And.intro (And.intro rfl ?_) (And.intro rfl trivial))))
            show cellsOf (at' i k ⟨(nextF fs l s2).pg, (nextF fs l s2).f, IntKind.i64.wrap ((nextF fs l s2).t + l)⟩).sv = _
            rw [hwt]; rfl
          · show _ - (k + 1) < _ - k; omega
      · have hgek : ¬ (k : Int) < nth ps i := of_decide_eq_false hgek
        have hkn : k = (nth ps i).toNat := by omega
        have hln2 := hln
        rw [hkn, Nat.sub_self] at hln
        simp only [linesF] at hln
        rw [← hln] at hpf
        refine ⟨[0, 1, 2, 3], ⟨(i + 1, P, L, s2, acc'), hlt, hpf, ?_, hpl.f, hpl.t0, ?_, hpl.p0, hpg, htY2, ?_⟩, And.intro (And.intro rfl (And.intro rfl (And.intro rfl (And.intro rfl (And.intro rfl (And.intro rfl (And.intro (sv_i64 (i64_succ i (by omega))) trivial))))))) (And.intro rfl (And.intro rfl (And.intro (And.intro rfl rfl) (And.intro rfl trivial)))), by show _ - (i + 1) < _ - i; omega⟩
        · show ((acc'.length : Nat) : Int) + sumZ (ps.drop (i + 1)) ≤ _; omega
        · show s2.t ≤ MS; omega
        · intro he
          have he : acc' = [] := he
          subst he
          have hk0 : k = 0 := by simp at hlen'; omega
          have ha0 : acc = [] := List.eq_nil_of_length_eq_zero (by simp at hlen'; omega)
          show s2.t = (nth fs s2.f).Y
          rw [hz hk0]
          have h0 : ¬ nth ps i > 0 := by omega
          unfold skipS
          rw [if_neg (fun h => h0 h.1)]
          exact hemp ha0
end Go.Proofs.Ytllbgbaahggapaa
