/- What page.Place computes, for every input: it returns placeF's spots and errno; the arguments stay as they are. -/
import Derived.Test.YtllbgbaahggapaaW2
namespace Go.Proofs.Ytllbgbaahggapaa
open Go Go.Eng Go.RowKit

def iDV (n : Int) : List DV := [.v (.int .i64 n)]
theorem iDV_flat : FlatE iDV := ⟨fun n => [.int .i64 n], fun _ => rfl⟩
theorem Spot_flat : FlatE Spot.enc := ⟨fun s => [.int .i64 s.P, .int .i64 s.L, .int .i64 s.Pg, .int .i64 s.F, .int .i64 s.T], fun _ => rfl⟩

def restBad : Int → List Int → Bool
  | _, [] => false
  | r, n :: ps => if n > r then true else restBad (r - n) ps

def putL (fs : List Frame) (l P L : Int) (s : S3) (acc : List Spot) : Option (S3 × List Spot) :=
  if (nextF fs l s).pg < 65536 then some (⟨(nextF fs l s).pg, (nextF fs l s).f, (nextF fs l s).t + l⟩, acc ++ [⟨P, L, (nextF fs l s).pg, (nextF fs l s).f, (nextF fs l s).t⟩]) else none

def linesF (fs : List Frame) (l P : Int) : Nat → Nat → S3 → List Spot → Option (S3 × List Spot)
  | 0, _, s, acc => some (s, acc)
  | n + 1, k, s, acc => match putL fs l P k s acc with
    | some (s', acc') => linesF fs l P n (k + 1) s' acc'
    | none => none

def skipS (fs : List Frame) (skip n : Int) (s : S3) : S3 := if n > 0 ∧ s.t ≠ (nth fs s.f).Y then ⟨s.pg, s.f, s.t + skip⟩ else s

def parasF (fs : List Frame) (l skip : Int) : List Int → Nat → S3 → List Spot → Option (List Spot)
  | [], _, _, acc => some acc
  | n :: ps, i, s, acc => match linesF fs l i n.toNat 0 (skipS fs skip n s) acc with
    | some (s', acc') => parasF fs l skip ps (i + 1) s' acc'
    | none => none

def placeF (fs : List Frame) (l skip : Int) (ps : List Int) : List Spot × Int :=
  if (!okF fs l || !inR skip 0 MS) = true then ([], 2)
  else if ps.any (fun n => decide (n < 0)) then ([], 2)
  else if restBad 16777216 ps then ([], 3)
  else match parasF fs l skip ps 0 ⟨0, 0, (nth fs 0).Y⟩ [] with
    | some acc => (acc, 0)
    | none => ([], 3)

/-- the result of page.Place -/
def PlaceR (w : World) (r : List Spot × Int) (e : Ending) (w' : World) : Prop :=
  ∃ v, e = .returned (.tuple #[v, .int .i64 r.2]) ∧ Below w.heap.size w w' ∧ Fresh w w' v 31 5 Spot.enc r.1

theorem any_drop (ps : List Int) (p : Int → Bool) : ∀ i, i ≤ ps.length → (∀ j, j < i → p (nth ps j) = false) → ps.any p = (ps.drop i).any p := by
  intro i
  induction i with
  | zero => intro _ _; simp
  | succ i ih =>
    intro hi h
    rw [ih (by omega) (fun j hj => h j (by omega)), List.drop_eq_getElem_cons (by omega)]
    have := h i (by omega)
    rw [nth_eq _ _ (by omega)] at this
    rw [List.any_cons, this, Bool.false_or]

theorem drop_nth (ps : List Int) (i : Nat) (h : i < ps.length) : ps.drop i = nth ps i :: ps.drop (i + 1) := by
  rw [nth_eq _ _ h, List.drop_eq_getElem_cons h]

def sumZ : List Int → Int
  | [] => 0
  | n :: r => n + sumZ r
theorem sumZ_nonneg : ∀ ps : List Int, ps.any (fun n => decide (n < 0)) = false → 0 ≤ sumZ ps
  | [], _ => by simp [sumZ]
  | n :: r, h => by
    simp only [List.any_cons, Bool.or_eq_false_iff, decide_eq_false_iff_not] at h
    have := sumZ_nonneg r h.2
    simp only [sumZ]; omega
theorem any_nth (ps : List Int) (h : ps.any (fun n => decide (n < 0)) = false) (i : Nat) (hi : i < ps.length) : 0 ≤ nth ps i := by
  rw [nth_eq _ _ hi]
  have := List.any_eq_false.1 h ps[i] (List.getElem_mem _)
  simp at this; omega
theorem any_dropf (ps : List Int) (h : ps.any (fun n => decide (n < 0)) = false) (i : Nat) : (ps.drop i).any (fun n => decide (n < 0)) = false := by
  rw [List.any_eq_false] at h ⊢
  intro x hx
  exact h x (List.mem_of_mem_drop hx)

theorem next_ok (fs : List Frame) (l : Int) (s : S3) (h : FsOk fs l) (hs : PlOk fs s) : (nextF fs l s).f < fs.length ∧ 0 ≤ (nextF fs l s).t ∧ (nextF fs l s).t + l ≤ MS ∧ s.pg ≤ (nextF fs l s).pg ∧ (nextF fs l s).pg ≤ s.pg + 1 := by
  have h1 := step_ok fs l s h hs
  have h2 := fit_step fs l s h hs.f
  have h3 := hs.f
  have h4 := hs.t0
  unfold nextF
  split
  · rename_i hf
    have := h.fr s.f h3
    simp only [fit, decide_eq_true_eq] at hf
    omega
  · have := h.fr (stepS fs s).f h2.2
    have hf := h2.1
    simp only [fit, decide_eq_true_eq] at hf
    omega

theorem skip_ok (fs : List Frame) (skip n : Int) (s : S3) : (skipS fs skip n s).f = s.f ∧ (skipS fs skip n s).pg = s.pg ∧ ((skipS fs skip n s).t = s.t ∨ (n > 0 ∧ (skipS fs skip n s).t = s.t + skip)) := by
  unfold skipS
  split <;> simp_all

set_option maxHeartbeats 4000000 in
theorem place_a (fs : List Frame) (l skip : Int) (ps : List Int) (v pv : Value) (w : World) (hlen : ps.length ≤ 9223372036854775807) (hv : Rd w v 4 Frame.enc fs) (hp : Rd w pv 1 iDV ps) :
    Calls Try.prog 9 #[v, .int .i64 l, .int .i64 skip, pv] w (PlaceR w (placeF fs l skip ps)) := by
  refine calls_exec (cf := cf) cfok (fn := Try.f9) Try.func9 rfl [.sl 0, .v (.int .i64 l), .v (.int .i64 skip), .sl 1] [.rd Frame inferInstance 4 Frame.enc fs, .rd Int inferInstance 1 iDV ps] (ρ := fun i => match i with | 0 => v | _ => pv) (· < w.heap.size) rfl rfl rfl (by simp [svOkL, svOk]) (memRd (fun _ h => h) ⟨hv, hp, trivial⟩) ?_
  refine Or.inl ⟨_, fun ρ S w' hm => Right_c fs l _ w' (hm.rd 0 rfl rfl), ?_⟩
  refine Or.inl ⟨_, fun _ ρ S w' hm => in_c _ _ _ _, ?_⟩
  refine And.intro (fun hbad => ?_) (fun hgood => ?_)
  · refine fun ρ S w' hi => ?_
    unfold placeF
    rw [if_pos hbad]
    exact ⟨_, rfl, hi.below, Fresh.nil _ _ _ _ _⟩
  have hgood : (!okF fs l || !inR skip 0 MS) = false := hgood
  refine ⟨{ i : Nat // i ≤ ps.length ∧ ∀ j, j < i → decide (nth ps j < 0) = false },
    fun i => ⟨121, [⟨0, [], .sl 0⟩, ⟨1, [], .v (.int .i64 l)⟩, ⟨2, [], .v (.int .i64 skip)⟩, ⟨3, [], .sl 1⟩, ⟨10, [], .v (.int .i64 16777216)⟩, ⟨29, [], .sl 1⟩, ⟨30, [], .v (.int .i64 ps.length)⟩, ⟨31, [], .v (.int .i64 i.1)⟩], [.rd Frame inferInstance 4 Frame.enc fs, .rd Int inferInstance 1 iDV ps], [], dropL nats 2⟩,
    fun i => ps.length - i.1, ⟨[0, 1], ⟨0, by omega, fun j hj => by omega⟩, ?_⟩, fun i => ?_⟩
  · exact And.intro (And.intro rfl (And.intro rfl (And.intro rfl (And.intro rfl (And.intro rfl (And.intro rfl (And.intro rfl (And.intro rfl trivial)))))))) (And.intro rfl (And.intro rfl trivial))
  obtain ⟨i, hi, hall⟩ := i
  refine And.intro (fun hlt => ?_) (fun hgeD => ?_)
  · have hlt : i < ps.length := by simpa using hlt
    refine And.intro ⟨by omega, by simpa using hlt⟩ ?_
    refine And.intro (fun hneg => ?_) (fun hpos => ?_)
    · refine fun ρ S w' hi' => ?_
      have hneg : decide (nth ps i < 0) = true := hneg
      unfold placeF
      rw [if_neg (by rw [hgood]; simp), any_drop ps _ i hi hall, drop_nth ps i hlt, if_pos (by simp only [List.any_cons, hneg, Bool.true_or])]
      exact ⟨_, rfl, hi'.below, Fresh.nil _ _ _ _ _⟩
    · refine ⟨[0, 1], ⟨i + 1, hlt, fun j hj => ?_⟩, And.intro (And.intro rfl (And.intro rfl (And.intro rfl (And.intro rfl (And.intro rfl (And.intro rfl (And.intro rfl (And.intro (sv_i64 (i64_succ i (by omega))) trivial)))))))) (And.intro rfl (And.intro rfl trivial)), by show _ - (i + 1) < _ - i; omega⟩
      by_cases e : j = i
      · subst e; exact hpos
      · exact hall j (by omega)
  have hge : i = ps.length := by have : ¬ i < ps.length := by simpa using hgeD
                                 omega
  have hany : ps.any (fun n => decide (n < 0)) = false := by
    rw [any_drop ps _ i hi hall, hge, List.drop_length]; rfl
  refine ⟨{ x : Nat × Int // x.1 ≤ ps.length ∧ restBad x.2 (ps.drop x.1) = restBad 16777216 ps ∧ 0 ≤ x.2 ∧ x.2 ≤ 16777216 ∧ sumZ ps = 16777216 - x.2 + sumZ (ps.drop x.1) },
    fun x => ⟨121, [⟨0, [], .sl 0⟩, ⟨1, [], .v (.int .i64 l)⟩, ⟨2, [], .v (.int .i64 skip)⟩, ⟨3, [], .sl 1⟩, ⟨10, [], .v (.int .i64 x.1.2)⟩, ⟨38, [], .sl 1⟩, ⟨39, [], .v (.int .i64 ps.length)⟩, ⟨40, [], .v (.int .i64 x.1.1)⟩], [.rd Frame inferInstance 4 Frame.enc fs, .rd Int inferInstance 1 iDV ps], [], dropL nats 2⟩,
    fun x => ps.length - x.1.1, ⟨[0, 1], ⟨(0, 16777216), by simp⟩, ?_⟩, fun x => ?_⟩
  · exact And.intro (And.intro rfl (And.intro rfl (And.intro rfl (And.intro rfl (And.intro rfl (And.intro rfl (And.intro rfl (And.intro rfl trivial)))))))) (And.intro rfl (And.intro rfl trivial))
  obtain ⟨⟨i, r⟩, hi, hrb, hr0, hr1, hsum⟩ := x
  simp only at hi hrb hr0 hr1 hsum
  refine And.intro (fun hlt => ?_) (fun hgeD => ?_)
  · have hlt : i < ps.length := by simpa using hlt
    have hn := any_nth ps hany i hlt
    refine And.intro ⟨by omega, by simpa using hlt⟩ ?_
    refine And.intro (fun hbig => ?_) (fun hsm => ?_)
    · have hbig : nth ps i > r := of_decide_eq_true hbig
      refine fun ρ S w' hi' => ?_
      unfold placeF
      rw [if_neg (by rw [hgood]; simp), if_neg (by rw [hany]; simp), if_pos (by rw [← hrb, drop_nth ps i hlt]; simp only [restBad]; rw [if_pos hbig])]
      exact ⟨_, rfl, hi'.below, Fresh.nil _ _ _ _ _⟩
    · have hsm : ¬ nth ps i > r := of_decide_eq_false hsm
      have e1 : IntKind.i64.wrap (r - nth ps i) = r - nth ps i := i64_id _ (by omega) (by omega)
      refine ⟨[0, 1], ⟨(i + 1, r - nth ps i), hlt, ?_, ?_, ?_, ?_⟩, And.intro (And.intro rfl (And.intro rfl (And.intro rfl (And.intro rfl (And.intro (sv_i64 e1) (And.intro rfl (And.intro rfl (And.intro (sv_i64 (i64_succ i (by omega))) trivial)))))))) (And.intro rfl (And.intro rfl trivial)), by show _ - (i + 1) < _ - i; omega⟩
      · rw [← hrb, drop_nth ps i hlt]; simp only [restBad]; rw [if_neg hsm]
      · show 0 ≤ r - nth ps i; omega
      · show r - nth ps i ≤ 16777216; omega
      · rw [drop_nth ps i hlt] at hsum; simp only [sumZ] at hsum; show sumZ ps = 16777216 - (r - nth ps i) + sumZ (ps.drop (i + 1)); omega
  have hge : i = ps.length := by have : ¬ i < ps.length := by simpa using hgeD
                                 omega
  have hrest : restBad 16777216 ps = false := by rw [← hrb, hge, List.drop_length]; rfl
  have htot : sumZ ps ≤ 16777216 := by rw [hsum, hge, List.drop_length]; simp only [sumZ]; omega
  have hok : FsOk fs l := (okF_iff fs l).1 (by cases h : okF fs l <;> simp_all)
  have hskip : 0 ≤ skip ∧ skip ≤ MS := by
    have : inR skip 0 MS = true := by cases h : inR skip 0 MS <;> simp_all
    simpa [inR] using this
  have hM := MS_eq
  have hl1 := hok.l1
  have hl2 := hok.l2
  have hn1 := hok.n1
  have hF : placeF fs l skip ps = (match parasF fs l skip ps 0 ⟨0, 0, (nth fs 0).Y⟩ [] with | some acc => (acc, 0) | none => ([], 3)) := by
    unfold placeF
    rw [if_neg (by rw [hgood]; simp), if_neg (by rw [hany]; simp), if_neg (by rw [hrest]; simp)]
  rw [hF]
  refine And.intro ⟨by omega, by omega⟩ ?_
  refine ⟨{ x : Nat × Int × Int × S3 × List Spot // x.1 ≤ ps.length ∧ parasF fs l skip (ps.drop x.1) x.1 x.2.2.2.1 x.2.2.2.2 = parasF fs l skip ps 0 ⟨0, 0, (nth fs 0).Y⟩ [] ∧
      (x.2.2.2.2.length : Int) + sumZ (ps.drop x.1) ≤ 16777216 ∧ x.2.2.2.1.f < fs.length ∧ 0 ≤ x.2.2.2.1.t ∧ x.2.2.2.1.t ≤ MS ∧ 0 ≤ x.2.2.2.1.pg ∧ x.2.2.2.1.pg ≤ 65536 },
    fun x => ⟨121, [⟨0, [], .sl 0⟩, ⟨1, [], .v (.int .i64 l)⟩, ⟨2, [], .v (.int .i64 skip)⟩, ⟨3, [], .sl 1⟩, ⟨15, [], .sl 3⟩, ⟨16, [], .bx 2 0⟩, ⟨60, [], .sl 1⟩, ⟨61, [], .v (.int .i64 ps.length)⟩, ⟨62, [], .v (.int .i64 x.1.1)⟩],
      [.rd Frame inferInstance 4 Frame.enc fs, .rd Int inferInstance 1 iDV ps, .bx 52 (filSV l x.1.2.1 x.1.2.2.1 x.1.2.2.2.1), .own 31 Spot inferInstance 5 Spot.enc x.1.2.2.2.2], [], dropL nats 4⟩,
    fun x => ps.length - x.1.1, ⟨[0, 1, 2, 1000], ⟨(0, 0, 0, ⟨0, 0, (nth fs 0).Y⟩, []), ?_⟩, ?_⟩, fun x => ?_⟩
  · have := hok.fr 0 (by omega)
    exact ⟨by omega, rfl, by simpa using htot, by show 0 < fs.length; omega, by show 0 ≤ (nth fs 0).Y; omega, by show (nth fs 0).Y ≤ MS; omega, by show (0 : Int) ≤ 0; omega, by show (0 : Int) ≤ 65536; omega⟩
  · exact And.intro (And.intro rfl (And.intro rfl (And.intro rfl (And.intro rfl (And.intro rfl (And.intro rfl (And.intro rfl (And.intro rfl (And.intro rfl trivial))))))))) (And.intro rfl (And.intro rfl (And.intro (And.intro rfl rfl) (And.intro rfl trivial))))
  obtain ⟨⟨i, P, L, s, acc⟩, hi, hpf, hcnt, hsf, ht0, ht1, hp0, hp1⟩ := x
  simp only at hi hpf hcnt hsf ht0 ht1 hp0 hp1
  refine And.intro (fun hlt => ?_) (fun hgeD => ?_)
  rotate_left
  · have hge : i = ps.length := by have : ¬ i < ps.length := by simpa using hgeD
                                   omega
    rw [hge, List.drop_length] at hpf
    simp only [parasF] at hpf
    refine fun ρ S w' hi' => ?_
    rw [← hpf]
    exact ⟨_, rfl, hi'.below, hi'.fresh 3 Spot_flat rfl rfl⟩
  have hlt : i < ps.length := by simpa using hlt
  refine And.intro ⟨by omega, by simpa using hlt⟩ ?_
  refine Or.inl ⟨_, fun _ ρ S w' hm => top_c fs l P L s _ w' hsf (hm.bx 2 rfl rfl (filDV fs l P L s) rfl), ?_⟩
  have hn := any_nth ps hany i hlt
  have hnb : nth ps i + sumZ (ps.drop (i + 1)) + acc.length ≤ 16777216 := by
    rw [drop_nth ps i hlt] at hcnt; simp only [sumZ] at hcnt; omega
  have hnb' := sumZ_nonneg _ (any_dropf ps hany (i + 1))
  have hsk := skip_ok fs skip (nth ps i) s
  have hpf' : parasF fs l skip (ps.drop i) i s acc = (match linesF fs l i (nth ps i).toNat 0 (skipS fs skip (nth ps i) s) acc with | some (s', acc') => parasF fs l skip (ps.drop (i + 1)) (i + 1) s' acc' | none => none) := by
    rw [drop_nth ps i hlt]; rfl
  rw [hpf'] at hpf
  refine And.intro (fun hsT => ?_) (fun hsF => ?_)
  all_goals
    refine ⟨{ x : Nat × Int × Int × S3 × List Spot // (x.1 : Int) ≤ nth ps i ∧ linesF fs l i ((nth ps i).toNat - x.1) x.1 x.2.2.2.1 x.2.2.2.2 = linesF fs l i (nth ps i).toNat 0 (skipS fs skip (nth ps i) s) acc ∧
        x.2.2.2.2.length = acc.length + x.1 ∧ PlOk fs x.2.2.2.1 ∧ x.2.2.2.1.pg ≤ 65536 ∧ (x.2.2.2.1.t ≤ MS ∨ x.1 < nth ps i) },
      fun x => ⟨121, [⟨0, [], .sl 0⟩, ⟨1, [], .v (.int .i64 l)⟩, ⟨2, [], .v (.int .i64 skip)⟩, ⟨3, [], .sl 1⟩, ⟨15, [], .sl 3⟩, ⟨16, [], .bx 2 0⟩, ⟨17, [], .v (.int .i64 i)⟩, ⟨60, [], .sl 1⟩, ⟨61, [], .v (.int .i64 ps.length)⟩, ⟨62, [], .v (.int .i64 i)⟩, ⟨84, [], .v (.int .i64 (nth ps i))⟩, ⟨85, [], .v (.int .i64 x.1.1)⟩],
        [.rd Frame inferInstance 4 Frame.enc fs, .rd Int inferInstance 1 iDV ps, .bx 52 (filSV l x.1.2.1 x.1.2.2.1 x.1.2.2.2.1), .own 31 Spot inferInstance 5 Spot.enc x.1.2.2.2.2], [], dropL nats 4⟩,
      fun x => (nth ps i).toNat - x.1.1, ⟨[0, 1, 2, 3], ⟨(0, P, L, skipS fs skip (nth ps i) s, acc), ?_⟩, ?_⟩, fun x => ?_⟩
    · have q1 := hok.fr s.f hsf
      refine ⟨by show (0 : Int) ≤ _; omega, rfl, rfl, ⟨?_, ?_, ?_, ?_, ?_⟩, ?_, ?_⟩
      · show (skipS fs skip (nth ps i) s).f < _; omega
      · show 0 ≤ (skipS fs skip (nth ps i) s).t; omega
      · show (skipS fs skip (nth ps i) s).t ≤ _; omega
      · show 0 ≤ (skipS fs skip (nth ps i) s).pg; omega
      · show (skipS fs skip (nth ps i) s).pg ≤ _; omega
      · show (skipS fs skip (nth ps i) s).pg ≤ _; omega
      · show (skipS fs skip (nth ps i) s).t ≤ _ ∨ (0 : Int) < _; omega
    · have qT : (decide ((nth ps i : Int) > 0) && !decide (s.t = (nth fs s.f).Y)) = true → filSV l P L ⟨s.pg, s.f, IntKind.i64.wrap (s.t + skip)⟩ = filSV l P L (skipS fs skip (nth ps i) s) := by
        intro h
        simp only [Bool.and_eq_true, decide_eq_true_eq, Bool.not_eq_true', decide_eq_false_iff_not] at h
        rw [i64_id (s.t + skip) (by omega) (by omega)]
        unfold skipS; rw [if_pos h]
      have qF : (decide ((nth ps i : Int) > 0) && !decide (s.t = (nth fs s.f).Y)) = false → filSV l P L s = filSV l P L (skipS fs skip (nth ps i) s) := by
        intro h
        unfold skipS; rw [if_neg]
        intro h2
        simp [h2.1, h2.2] at h
      exact And.intro (And.intro rfl (And.intro rfl (And.intro rfl (And.intro rfl (And.intro rfl (And.intro rfl (And.intro rfl (And.intro rfl (And.intro rfl (And.intro rfl (And.intro rfl (And.intro rfl trivial)))))))))))) (And.intro rfl (And.intro rfl (And.intro (And.intro rfl (by first | exact qT hsT | exact qF hsF)) (And.intro rfl trivial))))
    · obtain ⟨⟨k, P, L, s, acc'⟩, hk, hln, hlen', hpl, hpg, htk⟩ := x
      simp only at hk hln hlen' hpl hpg htk
      refine And.intro (fun hltk => ?_) (fun hgek => ?_)
      · have hltk : (k : Int) < nth ps i := by simpa using hltk
        have hnx := next_ok fs l s hok hpl
        refine Or.inr (lcall_box 2 (filSV l P L (nextF fs l s)) (.bool (decide ((nextF fs l s).pg < 65536))) rfl rfl rfl (fun ρ S w b hm hb hg hS => ?_) ?_)
        · simp only [denL, den, hb]
          exact line_c fs l P L s hok hpl (by omega) _ _ _ S hS (hm.ok 0 (blt_lt rfl)) hg
        refine And.intro (fun hout => ?_) (fun hin => ?_)
        · refine fun ρ S w' hi' => ?_
          rw [← hpf, ← hln, show (nth ps i).toNat - k = ((nth ps i).toNat - (k + 1)) + 1 by omega]
          simp only [linesF, putL]
          have hout : (!decide ((nextF fs l s).pg < 65536)) = true := hout
          rw [if_neg (by simpa using hout)]
          exact ⟨_, rfl, hi'.below, Fresh.nil _ _ _ _ _⟩
        · have hin : (!decide ((nextF fs l s).pg < 65536)) = false := hin
          have hin : (nextF fs l s).pg < 65536 := by simpa using hin
          have hnx1 := hnx.1
          refine ⟨[(⟨i, k, (nextF fs l s).pg, (nextF fs l s).f, (nextF fs l s).t⟩ : Spot)], ?_, ?_, ?_⟩
          · exact And.intro rfl (And.intro rfl (fun y hy => by rw [List.mem_singleton.1 hy]; rfl))
          · show (acc'.length + 1) * 40 ≤ 140737488355328; omega
          have hwt : IntKind.i64.wrap ((nextF fs l s).t + l) = (nextF fs l s).t + l := i64_id _ (by omega) (by omega)
          refine ⟨[0, 1, 2, 5], ⟨(k + 1, i, k, ⟨(nextF fs l s).pg, (nextF fs l s).f, (nextF fs l s).t + l⟩, acc' ++ [⟨i, k, (nextF fs l s).pg, (nextF fs l s).f, (nextF fs l s).t⟩]), ?_, ?_, ?_, ⟨?_, ?_, ?_, ?_, ?_⟩, ?_, ?_⟩, ?_, ?_⟩
          · show ((k + 1 : Nat) : Int) ≤ _; omega
          · rw [← hln, show (nth ps i).toNat - k = ((nth ps i).toNat - (k + 1)) + 1 by omega]
            simp only [linesF, putL]
            rw [if_pos hin]
          · show (acc' ++ [_]).length = acc.length + (k + 1)
            rw [List.length_append, hlen']; rfl
          · exact hnx.1
          · show 0 ≤ (nextF fs l s).t + l; omega
          · show (nextF fs l s).t + l ≤ _; omega
          · show 0 ≤ (nextF fs l s).pg; have := hpl.p0; omega
          · show (nextF fs l s).pg ≤ _; omega
          · show (nextF fs l s).pg ≤ _; omega
          · exact Or.inl hnx.2.2.1
          · exact And.intro (And.intro rfl (And.intro rfl (And.intro rfl (And.intro rfl (And.intro rfl (And.intro rfl (And.intro rfl (And.intro rfl (And.intro rfl (And.intro rfl (And.intro rfl (And.intro (sv_i64 (i64_succ k (by omega))) trivial)))))))))))) (And.intro rfl (And.intro rfl (And.intro (And.intro rfl (by show filSV l i k ⟨(nextF fs l s).pg, (nextF fs l s).f, IntKind.i64.wrap ((nextF fs l s).t + l)⟩ = _; rw [hwt]; rfl)) (And.intro rfl trivial))))
          · show _ - (k + 1) < _ - k; omega
      · have hgek : ¬ (k : Int) < nth ps i := by simpa using hgek
        have hkn : k = (nth ps i).toNat := by omega
        rw [hkn, Nat.sub_self] at hln
        simp only [linesF] at hln
        rw [← hln] at hpf
        refine ⟨[0, 1, 2, 3], ⟨(i + 1, P, L, s, acc'), hlt, hpf, ?_, hpl.f, hpl.t0, ?_, hpl.p0, hpg⟩, And.intro (And.intro rfl (And.intro rfl (And.intro rfl (And.intro rfl (And.intro rfl (And.intro rfl (And.intro rfl (And.intro rfl (And.intro (sv_i64 (i64_succ i (by omega))) trivial))))))))) (And.intro rfl (And.intro rfl (And.intro (And.intro rfl rfl) (And.intro rfl trivial)))), by show _ - (i + 1) < _ - i; omega⟩
        · show ((acc'.length : Nat) : Int) + sumZ (ps.drop (i + 1)) ≤ _; omega
        · show s.t ≤ MS; omega
end Go.Proofs.Ytllbgbaahggapaa
