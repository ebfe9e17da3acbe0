/- What the law's helpers many, works, goes, two and follows compute, for every input (follows: both frames' numbers in range). -/
import Derived.Test.YtllbgbaahggapaaW3
namespace Go.Proofs.Ytllbgbaahggapaa
open Go Go.Eng Go.RowKit

def manyL : List Int → Int → Bool
  | [], n => decide (n > 3000) && decide (n ≤ 16777216)
  | p :: ps, n => if (decide (p < 0) || decide (p > 16777216)) = true then false else manyL ps (n + p)
def manyF (ps : List Int) : Bool := if ps.length > 300 then true else manyL ps 0

theorem many_c (ps : List Int) (v : Value) (w : World) (hp : Rd w v 1 iDV ps) :
    Calls Try.prog 7 #[v] w fun e w' => e = .returned (.bool (manyF ps)) ∧ Below w.heap.size w w' := by
  refine calls_exec (cf := cf) cfok (fn := Try.f7) Try.func7 rfl [.sl 0] [.rd Int inferInstance 1 iDV ps] (ρ := fun _ => v) (· < w.heap.size) rfl rfl rfl (by simp [svOkL, svOk]) (memRd (fun _ h => h) ⟨hp, trivial⟩) ?_
  unfold manyF
  refine And.intro (fun hm => ?_) (fun hm => ?_)
  · refine fun ρ S w' hi => ⟨?_, hi.below⟩
    have : ps.length > 300 := by have := of_decide_eq_true hm; omega
    rw [if_pos this]; rfl
  have hlen : ¬ ps.length > 300 := by have := of_decide_eq_false hm; omega
  rw [if_neg hlen]
  refine ⟨{ x : Nat × Int // x.1 ≤ ps.length ∧ manyL (ps.drop x.1) x.2 = manyL ps 0 ∧ 0 ≤ x.2 ∧ x.2 ≤ x.1 * 16777216 },
    fun x => ⟨38, [⟨0, [], .sl 0⟩, ⟨3, [], .v (.int .i64 x.1.2)⟩, ⟨4, [], .v (.int .i64 x.1.1)⟩], [.rd Int inferInstance 1 iDV ps], [], dropL nats 1⟩,
    fun x => ps.length - x.1.1, ⟨[0], ⟨(0, 0), by simp⟩, ?_⟩, fun x => ?_⟩
  · exact And.intro (And.intro rfl (And.intro rfl (And.intro rfl trivial))) (And.intro rfl trivial)
  obtain ⟨⟨i, n⟩, hi, hml, hn0, hn1⟩ := x
  simp only at hi hml hn0 hn1
  refine And.intro (fun hlt => ?_) (fun hge => ?_)
  · have hlt : i < ps.length := by simpa using hlt
    refine And.intro ⟨by omega, by simpa using hlt⟩ ?_
    refine And.intro (fun _ => ⟨by omega, by simpa using hlt⟩) ?_
    have hml' := hml
    rw [drop_nth ps i hlt] at hml'
    simp only [manyL] at hml'
    refine And.intro (fun hT => ?_) (fun hF => ?_)
    · refine fun ρ S w' hi' => ⟨?_, hi'.below⟩
      have hT : (decide (nth ps i < 0) || decide (nth ps i > 16777216)) = true := hT
      rw [if_pos hT] at hml'
      rw [← hml']; rfl
    · have hF : (decide (nth ps i < 0) || decide (nth ps i > 16777216)) = false := hF
      rw [if_neg (by rw [hF]; simp)] at hml'
      have hb : 0 ≤ nth ps i ∧ nth ps i ≤ 16777216 := by simpa using hF
      refine And.intro ⟨by omega, by simpa using hlt⟩ ?_
      have e1 : IntKind.i64.wrap (n + nth ps i) = n + nth ps i := i64_id _ (by omega) (by omega)
      refine ⟨[0], ⟨(i + 1, n + nth ps i), hlt, hml', ?_, ?_⟩, And.intro (And.intro rfl (And.intro (sv_i64 e1) (And.intro (sv_i64 (i64_succ i (by omega))) trivial))) (And.intro rfl trivial), by show _ - (i + 1) < _ - i; omega⟩
      · show 0 ≤ n + nth ps i; omega
      · show n + nth ps i ≤ ((i + 1 : Nat) : Int) * 16777216; omega
  · have hge : i = ps.length := by have : ¬ i < ps.length := by simpa using hge
                                   omega
    rw [hge, List.drop_length] at hml
    refine fun ρ S w' hi' => ⟨?_, hi'.below⟩
    exact (show _ = Ending.returned (.bool (manyL [] n)) from rfl).trans (by rw [hml])

def followsF (fs : List Frame) (l skip : Int) (a b : Spot) : Bool :=
  let top0 := w64 (a.T + l)
  let top := if a.P ≠ b.P then w64 (top0 + skip) else top0
  if w64 (top + l) ≤ w64 ((nth fs a.F.toNat).Y + (nth fs a.F.toNat).H) then (decide (b.Pg = a.Pg) && decide (b.F = a.F)) && decide (b.T = top)
  else decide (w64 (w64 (b.Pg * fs.length) + b.F) = w64 (w64 (w64 (a.Pg * fs.length) + a.F) + 1)) && decide (b.T = (nth fs b.F.toNat).Y)

theorem follows_c (fs : List Frame) (l skip : Int) (a b : Spot) (v : Value) (w : World) (hv : Rd w v 4 Frame.enc fs) (ha : 0 ≤ a.F ∧ a.F < fs.length) (hb : 0 ≤ b.F ∧ b.F < fs.length) :
    Calls Try.prog 10 #[v, .int .i64 l, .int .i64 skip, a.val, b.val] w fun e w' => e = .returned (.bool (followsF fs l skip a b)) ∧ Below w.heap.size w w' := by
  refine calls_exec (cf := cf) cfok (fn := Try.f10) Try.func10 rfl [.sl 0, .v (.int .i64 l), .v (.int .i64 skip), a.sv, b.sv] [.rd Frame inferInstance 4 Frame.enc fs] (ρ := fun _ => v) (· < w.heap.size) rfl rfl rfl (by simp [svOkL, svOk, Spot.sv]) (memRd (fun _ h => h) ⟨hv, trivial⟩) ?_
  have ea : ((a.F.toNat : Nat) : Int) = a.F := by omega
  have eb : ((b.F.toNat : Nat) : Int) = b.F := by omega
  refine And.intro (fun hne => ?_) (fun heq => ?_)
  all_goals
    refine And.intro ⟨ha.1, ha.2⟩ ?_
    refine And.intro (fun hfit => ?_) (fun hno => ?_)
    · refine fun ρ S w' hi' => ⟨?_, hi'.below⟩
      have hfit := of_decide_eq_true hfit
      unfold followsF
      first
      | (have hne : a.P ≠ b.P := by simpa using hne
         simp only
         rw [if_pos hne, if_pos hfit]; rfl)
      | (have heq : ¬ a.P ≠ b.P := by simpa using heq
         simp only
         rw [if_neg heq, if_pos hfit]; rfl)
    · refine Or.inl ⟨by kernel_rfl, ?_⟩
      refine And.intro (fun _ => ⟨hb.1, hb.2⟩) ?_
      refine fun ρ S w' hi' => ⟨?_, hi'.below⟩
      have hno := of_decide_eq_false hno
      unfold followsF
      first
      | (have hne : a.P ≠ b.P := by simpa using hne
         simp only
         rw [if_pos hne, if_neg hno]; rfl)
      | (have heq : ¬ a.P ≠ b.P := by simpa using heq
         simp only
         rw [if_neg heq, if_neg hno]; rfl)

def twoF : List Frame := [⟨0, 5, 40, 25⟩, ⟨50, 5, 30, 10⟩]
theorem Frame_flat : FlatE Frame.enc := ⟨fun s => [.int .i64 s.X, .int .i64 s.Y, .int .i64 s.W, .int .i64 s.H], fun _ => rfl⟩

theorem two_c (w : World) : Calls Try.prog 16 #[] w fun e w' => ∃ v, e = .returned v ∧ Below w.heap.size w w' ∧ Fresh w w' v 33 4 Frame.enc twoF := by
  refine calls_exec (cf := cf) cfok (fn := Try.f16) Try.func16 rfl [] [] (ρ := fun _ => undef) (· < w.heap.size) rfl rfl rfl (by simp [svOkL, svOk]) (memNil fun _ h => h) ?_
  exact fun ρ S w' hi => ⟨_, rfl, hi.below, hi.freshRaw (enc := Frame.enc) 0 rfl rfl (fun s : Frame => [.int .i64 s.X, .int .i64 s.Y, .int .i64 s.W, .int .i64 s.H]) (fun _ => rfl) twoF rfl rfl (fun y hy => rfl) (by decide) (fun y hy => rfl)⟩

def badT (r : List Spot) (want : List Int) (i : Nat) : Bool := (!decide ((nth r i).Pg = nth want (w64 (3 * (i : Int))).toNat) || !decide ((nth r i).F = nth want (w64 (w64 (3 * (i : Int)) + 1)).toNat)) || !decide ((nth r i).T = nth want (w64 (w64 (3 * (i : Int)) + 2)).toNat)
def goesF (skip : Int) (ps want : List Int) : Bool :=
  let r := placeF twoF 10 skip ps
  if (!decide (r.2 = 0) || !decide (w64 (r.1.length * 3) = want.length)) = true then false
  else (List.range r.1.length).all fun i => !badT r.1 want i

theorem linesF_len (fs : List Frame) (l P : Int) : ∀ (n k : Nat) (s : S3) (acc : List Spot) (s' : S3) (acc' : List Spot), linesF fs l P n k s acc = some (s', acc') → acc'.length = acc.length + n
  | 0, k, s, acc, s', acc', h => by simp only [linesF, Option.some.injEq, Prod.mk.injEq] at h; rw [← h.2]; rfl
  | n + 1, k, s, acc, s', acc', h => by
    simp only [linesF, putL] at h
    split at h
    · rename_i x y heq
      split at heq
      · simp only [Option.some.injEq, Prod.mk.injEq] at heq
        have := linesF_len fs l P n (k + 1) _ _ s' acc' h
        rw [this, ← heq.2, List.length_append]; simp only [List.length_singleton]; omega
      · cases heq
    · cases h

theorem parasF_len (fs : List Frame) (l skip : Int) : ∀ (ps : List Int) (i : Nat) (s : S3) (acc out : List Spot), ps.any (fun n => decide (n < 0)) = false → parasF fs l skip ps i s acc = some out → (out.length : Int) = acc.length + sumZ ps
  | [], i, s, acc, out, _, h => by simp only [parasF, Option.some.injEq] at h; rw [h]; simp [sumZ]
  | n :: ps, i, s, acc, out, hn, h => by
    simp only [parasF] at h
    simp only [List.any_cons, Bool.or_eq_false_iff, decide_eq_false_iff_not] at hn
    split at h
    · rename_i s1 acc1 heq
      have h1 := linesF_len fs l i _ _ _ _ _ _ heq
      have h2 := parasF_len fs l skip ps (i + 1) _ _ out hn.2 h
      rw [h2, h1]; simp only [sumZ]; omega
    · cases h

theorem rest_sum : ∀ (ps : List Int) (r : Int), 0 ≤ r → restBad r ps = false → sumZ ps ≤ r
  | [], r, h, _ => by simpa [sumZ] using h
  | n :: ps, r, h, hb => by
    simp only [restBad] at hb
    split at hb
    · cases hb
    · have := rest_sum ps (r - n) (by omega) hb
      simp only [sumZ]; omega

theorem placeF_len (fs : List Frame) (l skip : Int) (ps : List Int) : (placeF fs l skip ps).1.length ≤ 16777216 := by
  unfold placeF
  split
  · simp
  · split
    · simp
    · split
      · simp
      · rename_i h1 h2 h3
        split
        · rename_i acc heq
          have := parasF_len fs l skip ps 0 _ _ _ (by simpa using h2) heq
          have h4 := rest_sum ps 16777216 (by omega) (by simpa using h3)
          simp only [List.length_nil] at this
          show acc.length ≤ _
          omega
        · simp

theorem goes_c (skip : Int) (ps want : List Int) (pv wv : Value) (w : World) (hlen : ps.length ≤ 9223372036854775807) (hp : Rd w pv 1 iDV ps) (hw : Rd w wv 1 iDV want) :
    Calls Try.prog 15 #[.int .i64 skip, pv, wv] w fun e w' => e = .returned (.bool (goesF skip ps want)) ∧ Below w.heap.size w w' := by
  refine calls_exec (cf := cf) cfok (fn := Try.f15) Try.func15 rfl [.v (.int .i64 skip), .sl 0, .sl 1] [.rd Int inferInstance 1 iDV ps, .rd Int inferInstance 1 iDV want] (ρ := fun i => match i with | 0 => pv | _ => wv) (· < w.heap.size) rfl rfl rfl (by simp [svOkL, svOk]) (memRd (fun _ h => h) ⟨hp, hw, trivial⟩) ?_
  refine Or.inr (lcall_fresh twoF (fun ρ S w hm => two_c w) ?_)
  refine Or.inr (lcall_fresh2 (placeF twoF 10 skip ps).1 (.int .i64 (placeF twoF 10 skip ps).2) (fun ρ S w hm => place_a twoF 10 skip ps _ _ w hlen (hm.own 2 rfl rfl) (hm.rd 0 rfl rfl)) ?_)
  have hpl := placeF_len twoF 10 skip ps
  have e3 : IntKind.i64.wrap ((placeF twoF 10 skip ps).1.length * 3) = (placeF twoF 10 skip ps).1.length * 3 := i64_id _ (by omega) (by omega)
  refine And.intro (fun hT => ?_) (fun hF => ?_)
  · refine fun ρ S w' hi' => ⟨?_, hi'.below⟩
    have : goesF skip ps want = false := by unfold goesF; simp only; rw [if_pos hT]
    rw [this]; rfl
  · have hg : goesF skip ps want = (List.range (placeF twoF 10 skip ps).1.length).all fun i => !badT (placeF twoF 10 skip ps).1 want i := by
      unfold goesF; simp only; rw [if_neg]; intro h; exact absurd (h.symm.trans hF) (by simp)
    have hwl : ((placeF twoF 10 skip ps).1.length : Int) * 3 = want.length := by
      rw [e3] at hF
      have := (Bool.or_eq_false_iff.1 hF).2
      simpa using this
    refine ⟨{ i : Nat // i ≤ (placeF twoF 10 skip ps).1.length ∧ ∀ j, j < i → badT (placeF twoF 10 skip ps).1 want j = false },
      fun i => ⟨72, [⟨0, [], .v (.int .i64 skip)⟩, ⟨1, [], .sl 0⟩, ⟨2, [], .sl 1⟩, ⟨7, [], .sl 2⟩, ⟨9, [], .v (.int .i64 i.1)⟩], [.rd Int inferInstance 1 iDV ps, .rd Int inferInstance 1 iDV want, .own 31 Spot inferInstance 5 Spot.enc (placeF twoF 10 skip ps).1], [], dropL nats 3⟩,
      fun i => (placeF twoF 10 skip ps).1.length - i.1, ⟨[0, 1, 3], ⟨0, by omega, fun j hj => by omega⟩, ?_⟩, fun i => ?_⟩
    · exact And.intro (And.intro rfl (And.intro rfl (And.intro rfl (And.intro rfl (And.intro rfl trivial))))) (And.intro rfl (And.intro rfl (And.intro rfl trivial)))
    obtain ⟨i, hi, hall⟩ := i
    refine And.intro (fun hlt => ?_) (fun hge => ?_)
    · have hlt : i < (placeF twoF 10 skip ps).1.length := by simpa using hlt
      have q1 : IntKind.i64.wrap (3 * (i : Int)) = 3 * i := i64_id _ (by omega) (by omega)
      have q2 : IntKind.i64.wrap (3 * (i : Int) + 1) = 3 * i + 1 := i64_id _ (by omega) (by omega)
      have q3 : IntKind.i64.wrap (3 * (i : Int) + 2) = 3 * i + 2 := i64_id _ (by omega) (by omega)
      refine Or.inl ⟨by kernel_rfl, ?_⟩
      refine And.intro ⟨by omega, by simpa using hlt⟩ ?_
      refine And.intro ⟨by show 0 ≤ IntKind.i64.wrap (3 * (i : Int)); omega, by show IntKind.i64.wrap (3 * (i : Int)) < _; omega⟩ ?_
      refine And.intro (fun _ => ⟨by omega, by simpa using hlt⟩) ?_
      refine And.intro (fun _ => ⟨by show 0 ≤ IntKind.i64.wrap (IntKind.i64.wrap (3 * (i : Int)) + 1); rw [q1]; omega, by show IntKind.i64.wrap (IntKind.i64.wrap (3 * (i : Int)) + 1) < _; rw [q1]; omega⟩) ?_
      refine And.intro (fun _ => ⟨by omega, by simpa using hlt⟩) ?_
      refine And.intro (fun _ => ⟨by show 0 ≤ IntKind.i64.wrap (IntKind.i64.wrap (3 * (i : Int)) + 2); rw [q1]; omega, by show IntKind.i64.wrap (IntKind.i64.wrap (3 * (i : Int)) + 2) < _; rw [q1]; omega⟩) ?_
      refine And.intro (fun hb => ?_) (fun hgd => ?_)
      · refine fun ρ S w' hi' => ⟨?_, hi'.below⟩
        have hb : badT (placeF twoF 10 skip ps).1 want i = true := hb
        have : goesF skip ps want = false := by
          rw [hg, List.all_eq_false]
          exact ⟨i, by simpa using hlt, by rw [hb]; simp⟩
        rw [this]; rfl
      · have hgd : badT (placeF twoF 10 skip ps).1 want i = false := hgd
        refine ⟨[0, 1, 2], ⟨i + 1, hlt, fun j hj => ?_⟩, And.intro (And.intro rfl (And.intro rfl (And.intro rfl (And.intro rfl (And.intro (sv_i64 (i64_succ i (by omega))) trivial))))) (And.intro rfl (And.intro rfl (And.intro rfl trivial))), by show _ - (i + 1) < _ - i; omega⟩
        by_cases e : j = i
        · subst e; exact hgd
        · exact hall j (by omega)
    · have hge : i = (placeF twoF 10 skip ps).1.length := by have : ¬ i < (placeF twoF 10 skip ps).1.length := by simpa using hge
                                                             omega
      refine fun ρ S w' hi' => ⟨?_, hi'.below⟩
      have : goesF skip ps want = true := by
        rw [hg, List.all_eq_true]
        intro j hj
        rw [hall j (by rw [hge]; simpa using hj)]; rfl
      rw [this]; rfl

theorem works_c (w : World) : Calls Try.prog 8 #[] w fun e w' => e = .returned (.bool true) ∧ Below w.heap.size w w' := by
  refine calls_exec (cf := cf) cfok (fn := Try.f8) Try.func8 rfl [] [] (ρ := fun _ => undef) (· < w.heap.size) rfl rfl rfl (by simp [svOkL, svOk]) (memNil fun _ h => h) ?_
  refine Or.inl ⟨.bool true, fun ρ S w' hm => ?_, ?_⟩
  · have h := goes_c 3 [4] [0, 0, 5, 0, 0, 15, 0, 1, 5, 1, 0, 5] _ _ w' (by decide) (hm.raw 0 rfl rfl [4] _ rfl rfl rfl (fun _ _ => rfl)) (hm.raw 1 rfl rfl [0, 0, 5, 0, 0, 15, 0, 1, 5, 1, 0, 5] _ rfl rfl rfl (fun _ _ => rfl))
    rw [show goesF 3 [4] [0, 0, 5, 0, 0, 15, 0, 1, 5, 1, 0, 5] = true by decide] at h
    exact h
  refine Or.inr (Or.inl ⟨⟨rfl, trivial⟩, ?_⟩)
  refine Or.inr (lcall_fresh twoF (fun ρ S w hm => two_c w) ?_)
  refine Or.inl ⟨.bool true, fun _ ρ S w' hm => ?_, ?_⟩
  · have h := Right_c twoF 10 _ w' (hm.own 2 rfl rfl)
    rw [show okF twoF 10 = true by decide] at h
    exact h
  refine Or.inr (Or.inl ⟨⟨rfl, trivial⟩, ?_⟩)
  refine Or.inr (lcall_fresh twoF (fun ρ S w hm => two_c w) ?_)
  refine Or.inl ⟨.bool false, fun _ ρ S w' hm => ?_, ?_⟩
  · have h := Right_c twoF 11 _ w' (hm.own 3 rfl rfl)
    rw [show okF twoF 11 = false by decide] at h
    exact h
  exact fun ρ S w' hi => ⟨rfl, hi.below⟩
end Go.Proofs.Ytllbgbaahggapaa
