/- What page.Right, filler.top and filler.line compute, for every input within the bounds that Place keeps (FsOk, PlOk). -/
import Derived.Test.YtllbgbaahggapaaW1
namespace Go.Proofs.Ytllbgbaahggapaa
open Go Go.Eng Go.RowKit

theorem con_c (fs : List Frame) (l : Int) (v p : Value) (w : World) (hlen : fs.length ≤ 9223372036854775807) (hv : Rd w v 4 Frame.enc fs) (hp : DRep (· < w.heap.size) w (.ptr [.v (.int .i64 l)]) p) :
    Calls Try.prog 26 #[v, .func (.func 27) #[] #[p]] w fun e w' => e = .returned (.bool (decide (badIx l 0 fs ≥ 0))) ∧ Below w.heap.size w w' := by
  cases hp with
  | ptr b o cell hb hcell hrep =>
  refine calls_exec (cf := cf) cfok (fn := Try.f26) Try.func26 rfl [.sl 0, .fn 27 [.bx 1 0]] [.rd Frame inferInstance 4 Frame.enc fs, .rp [] [.v (.int .i64 l)]] (ρ := fun i => match i with | 0 => v | _ => .pointer (some ⟨b, o, none⟩)) (· < w.heap.size) rfl rfl rfl (by simp [svOkL, svOk]) (memRd (fun _ h => h) ⟨hv, .ptr b o cell hb hcell hrep, trivial⟩) ?_
  refine Or.inl ⟨_, fun ρ S w' hm => idx_c fs l _ _ w' hlen (hm.rd 0 rfl rfl) (hm.rp 1 rfl rfl), ?_⟩
  exact fun ρ S w' hi => ⟨rfl, hi.below⟩

/-- page.Right -/
def okF (fs : List Frame) (l : Int) : Bool := (inR l 1 MS && inR fs.length 1 64) && !decide (badIx l 0 fs ≥ 0)

theorem Right_c (fs : List Frame) (l : Int) (v : Value) (w : World) (hv : Rd w v 4 Frame.enc fs) :
    Calls Try.prog 18 #[v, .int .i64 l] w fun e w' => e = .returned (.bool (okF fs l)) ∧ Below w.heap.size w w' := by
  refine calls_exec (cf := cf) cfok (fn := Try.f18) Try.func18 rfl [.sl 0, .v (.int .i64 l)] [.rd Frame inferInstance 4 Frame.enc fs] (ρ := fun _ => v) (· < w.heap.size) rfl rfl rfl (by simp [svOkL, svOk]) (memRd (fun _ h => h) ⟨hv, trivial⟩) ?_
  refine Or.inl ⟨_, fun ρ S w' hm => in_c _ _ _ _, ?_⟩
  refine Or.inl ⟨_, fun _ ρ S w' hm => in_c _ _ _ _, ?_⟩
  refine Or.inl ⟨_, fun hg ρ S w' hm => con_c fs l _ _ w' ?_ (hm.rd 0 rfl rfl) (hm.bx 1 rfl rfl [.v (.int .i64 l)] rfl), ?_⟩
  · simp [inR] at hg; omega
  exact fun ρ S w' hi => ⟨rfl, hi.below⟩

/-- the place by now -/
structure S3 where
  pg : Int
  f : Nat
  t : Int

def filDV (fs : List Frame) (l P L : Int) (s : S3) : List DV := [.sl Frame inferInstance 4 Frame.enc fs, .v (.int .i64 l), .v (.int .i64 P), .v (.int .i64 L), .v (.int .i64 s.pg), .v (.int .i64 s.f), .v (.int .i64 s.t)]
def filSV (l P L : Int) (s : S3) : List SV := [.sl 0, .v (.int .i64 l), .v (.int .i64 P), .v (.int .i64 L), .v (.int .i64 s.pg), .v (.int .i64 s.f), .v (.int .i64 s.t)]

theorem top_c (fs : List Frame) (l P L : Int) (s : S3) (p : Value) (w : World) (hf : s.f < fs.length) (hp : DRep (· < w.heap.size) w (.ptr (filDV fs l P L s)) p) :
    Calls Try.prog 20 #[p] w fun e w' => e = .returned (.bool (decide (s.t = (nth fs s.f).Y))) ∧ Below w.heap.size w w' := by
  cases hp with
  | ptr b o cell hb hcell hrep =>
  refine calls_exec (cf := cf) cfok (fn := Try.f20) Try.func20 rfl [.bx 0 0] [.rp [] (filDV fs l P L s)] (ρ := fun _ => .pointer (some ⟨b, o, none⟩)) (· < w.heap.size) rfl rfl rfl (by simp [svOkL, svOk]) (memRd (fun _ h => h) ⟨.ptr b o cell hb hcell hrep, trivial⟩) ?_
  refine Or.inl ⟨by kernel_rfl, ?_⟩
  refine And.intro ⟨by omega, by omega⟩ ?_
  exact fun ρ S w' hi => ⟨rfl, hi.below⟩

def fit (fs : List Frame) (l : Int) (s : S3) : Bool := decide (s.t + l ≤ (nth fs s.f).Y + (nth fs s.f).H)
def stepS (fs : List Frame) (s : S3) : S3 := if s.f + 1 = fs.length then ⟨s.pg + 1, 0, (nth fs 0).Y⟩ else ⟨s.pg, s.f + 1, (nth fs (s.f + 1)).Y⟩
def nextF (fs : List Frame) (l : Int) (s : S3) : S3 := if fit fs l s then s else stepS fs s

/-- frames that may be, as bounds -/
structure FsOk (fs : List Frame) (l : Int) : Prop where
  l1 : 1 ≤ l
  l2 : l ≤ MS
  n1 : 1 ≤ fs.length
  n2 : fs.length ≤ 64
  fr : ∀ i, i < fs.length → 0 ≤ (nth fs i).X ∧ 0 ≤ (nth fs i).Y ∧ 1 ≤ (nth fs i).W ∧ l ≤ (nth fs i).H ∧ (nth fs i).X + (nth fs i).W ≤ MS ∧ (nth fs i).Y + (nth fs i).H ≤ MS

theorem rightF_iff (f : Frame) (l : Int) (hl : 1 ≤ l) : rightF f l = true ↔ (0 ≤ f.X ∧ 0 ≤ f.Y ∧ 1 ≤ f.W ∧ l ≤ f.H ∧ f.X + f.W ≤ MS ∧ f.Y + f.H ≤ MS) := by
  have hM : (MS : Int) = 1099511627776 := rfl
  simp only [rightF, inR, Bool.and_eq_true, decide_eq_true_eq, ge_iff_le]
  constructor
  · rintro ⟨⟨⟨⟨h1, h2⟩, h3, h4⟩, h5, h6⟩, h7, h8⟩
    rw [w64, i64_id _ (by omega) (by omega)] at h6 h8
    omega
  · rintro ⟨h1, h2, h3, h4, h5, h6⟩
    rw [w64, w64, i64_id _ (by omega) (by omega), i64_id _ (by omega) (by omega)]
    omega

theorem badIx_neg (l : Int) (fs : List Frame) : ∀ i : Nat, (badIx l i fs ≥ 0) ↔ ∃ j, j < fs.length ∧ rightF (nth fs j) l = false := by
  induction fs with
  | nil => intro i; simp [badIx]
  | cons f r ih =>
    intro i
    simp only [badIx]
    by_cases h : rightF f l = true
    · rw [if_pos h, ih (i + 1)]
      constructor
      · rintro ⟨j, h1, h2⟩; exact ⟨j + 1, by simpa using h1, h2⟩
      · rintro ⟨j, h1, h2⟩
        cases j with
        | zero => have h2 : rightF f l = false := h2
                  rw [h] at h2; cases h2
        | succ j => exact ⟨j, by simpa using h1, h2⟩
    · rw [if_neg h]
      simp only [Bool.not_eq_true] at h
      exact ⟨fun _ => ⟨0, by simp, h⟩, fun _ => by omega⟩

theorem okF_iff (fs : List Frame) (l : Int) : okF fs l = true ↔ FsOk fs l := by
  simp only [okF, Bool.and_eq_true, Bool.not_eq_true', decide_eq_false_iff_not, inR, decide_eq_true_eq, ge_iff_le]
  have hb := badIx_neg l fs 0
  simp only [ge_iff_le] at hb
  constructor
  · rintro ⟨⟨⟨h1, h2⟩, h3, h4⟩, h5⟩
    refine ⟨h1, h2, by omega, by omega, fun i hi => ?_⟩
    rw [← rightF_iff _ _ h1]
    by_cases h : rightF (nth fs i) l = true
    · exact h
    · exact absurd (hb.2 ⟨i, hi, by simpa using h⟩) h5
  · rintro ⟨h1, h2, h3, h4, h5⟩
    refine ⟨⟨⟨h1, h2⟩, by omega, by omega⟩, fun h => ?_⟩
    obtain ⟨j, hj, hj'⟩ := hb.1 h
    rw [(rightF_iff _ _ h1).2 (h5 j hj)] at hj'
    cases hj'

theorem MS_eq : (MS : Int) = 1099511627776 := rfl
theorem fit_step (fs : List Frame) (l : Int) (s : S3) (h : FsOk fs l) (hf : s.f < fs.length) : fit fs l (stepS fs s) = true ∧ (stepS fs s).f < fs.length := by
  unfold stepS
  have := h.n1
  split
  · have := h.fr 0 (by omega); simp only [fit, decide_eq_true_eq]; omega
  · have := h.fr (s.f + 1) (by omega); simp only [fit, decide_eq_true_eq]; omega

theorem next_next (fs : List Frame) (l : Int) (s : S3) (h : FsOk fs l) (hf : s.f < fs.length) : nextF fs l (stepS fs s) = stepS fs s := by
  unfold nextF
  rw [if_pos (fit_step fs l s h hf).1]


/-- bounds of a place -/
structure PlOk (fs : List Frame) (s : S3) : Prop where
  f : s.f < fs.length
  t0 : 0 ≤ s.t
  t1 : s.t ≤ 4398046511104
  p0 : 0 ≤ s.pg
  p1 : s.pg ≤ 8589934592

theorem step_ok (fs : List Frame) (l : Int) (s : S3) (h : FsOk fs l) (hs : PlOk fs s) : 0 ≤ (stepS fs s).t ∧ (stepS fs s).t ≤ MS ∧ (stepS fs s).f < fs.length ∧ (stepS fs s).pg ≤ s.pg + 1 ∧ s.pg ≤ (stepS fs s).pg := by
  have := h.n1
  have hl := h.l1
  have hf := hs.f
  unfold stepS
  split
  · have := h.fr 0 (by omega); simp only; omega
  · have := h.fr (s.f + 1) (by omega); simp only; omega

def lst (fs : List Frame) (l P L : Int) (s : S3) : St := ⟨89, [⟨2, [], .v (.bool false)⟩, ⟨0, [], .bx 1 0⟩], [.rd Frame inferInstance 4 Frame.enc fs, .bx 52 (filSV l P L s)], [], dropL nats 2⟩

theorem lst_ent (fs : List Frame) (l P L : Int) (s : S3) (st : St) (h1 : lookE st.env 2 = some ⟨2, [], .v (.bool false)⟩) (h2 : lookE st.env 0 = some ⟨0, [], .bx 1 0⟩) (hn : st.n = 89) (hl : st.ch.length = 2)
    (h3 : chGet st.ch 0 = .rd Frame inferInstance 4 Frame.enc fs) (h4 : chGet st.ch 1 = .bx 52 (filSV l P L s)) : Ent' 2 [0, 1] st (lst fs l P L s) := by
  unfold Ent'
  simp only [hn]
  show envLe st.env [0, 1] _ _ ∧ chsLe st.ch [0, 1] _ _ _
  refine ⟨?_, ?_⟩
  · simp only [lst, envLe, h1, h2]
    exact And.intro rfl (And.intro rfl trivial)
  · simp only [lst, chsLe, h3, h4, hl]
    exact And.intro rfl (And.intro (And.intro rfl rfl) trivial)

theorem wle (a b : Int) (ha : -9223372036854775808 ≤ a) (ha' : a ≤ 9223372036854775807) (hb : -9223372036854775808 ≤ b) (hb' : b ≤ 9223372036854775807) : decide (IntKind.i64.wrap a ≤ IntKind.i64.wrap b) = decide (a ≤ b) := by
  rw [i64_id a ha ha', i64_id b hb hb']

noncomputable def rest21 : Code := (findLabel (match (Try.f21.body.getD .skip) with | .seq _ (.scope b) => b | _ => .skip) 0).getD .skip

theorem line_walk (fs : List Frame) (l P L : Int) (s : S3) (h : FsOk fs l) (hs : PlOk fs s) (K : Exit → St → Prop)
    (hret : fit fs l s = true → ∀ st, lookE st.env 2 = some ⟨2, [], .v (.bool (decide (s.pg < 65536)))⟩ → chGet st.ch 1 = .bx 52 (filSV l P L s) → K .ret st)
    (hgo : fit fs l s = false → ∀ st, lookE st.env 2 = some ⟨2, [], .v (.bool false)⟩ → lookE st.env 0 = some ⟨0, [], .bx 1 0⟩ → st.n = 89 → st.ch.length = 2 → chGet st.ch 0 = .rd Frame inferInstance 4 Frame.enc fs → chGet st.ch 1 = .bx 52 (filSV l P L (stepS fs s)) → K (.goto 0) st) :
    exec cf 2 rest21 (lst fs l P L s) K := by
  have hM := MS_eq
  have hfr := h.fr s.f hs.f
  have hsf := hs.f
  have h1 := h.l1
  have h2 := h.l2
  have hn := h.n2
  have t0 := hs.t0
  have t1 := hs.t1
  have p0 := hs.p0
  have p1 := hs.p1
  refine Or.inl ⟨by kernel_rfl, ?_⟩
  refine And.intro ⟨by omega, by omega⟩ ?_
  refine Or.inl ⟨by kernel_rfl, ?_⟩
  have hfit : fit fs l s = decide (IntKind.i64.wrap (s.t + l) ≤ IntKind.i64.wrap ((nth fs s.f).Y + (nth fs s.f).H)) := by
    rw [wle _ _ (by omega) (by omega) (by omega) (by omega)]; rfl
  refine And.intro (fun hy => ?_) (fun hno => ?_)
  · exact hret (hfit.trans hy) _ rfl rfl
  · have hno := hfit.trans hno
    refine Or.inl ⟨by kernel_rfl, ?_⟩
    have e1 : IntKind.i64.wrap ((s.f : Int) + 1) = ((s.f + 1 : Nat) : Int) := i64_succ s.f (by omega)
    refine And.intro (fun hw => ?_) (fun hw => ?_)
    · have hw : IntKind.i64.wrap ((s.f : Int) + 1) = (fs.length : Int) := of_decide_eq_true hw
      rw [e1] at hw
      have hlast : s.f + 1 = fs.length := by omega
      refine Or.inr (Or.inl ⟨16, by kernel_rfl, ?_⟩)
      refine And.intro ⟨by omega, by have := h.n1; omega⟩ ?_
      refine hgo hno _ rfl rfl rfl rfl rfl ?_
      have e2 : IntKind.i64.wrap (s.pg + 1) = s.pg + 1 := i64_id _ (by omega) (by omega)
      have : stepS fs s = ⟨s.pg + 1, 0, (nth fs 0).Y⟩ := by unfold stepS; rw [if_pos hlast]
      have e3 : filSV l P L ⟨s.pg + 1, 0, (nth fs 0).Y⟩ = [.sl 0, .v (.int .i64 l), .v (.int .i64 P), .v (.int .i64 L), .v (.int .i64 (IntKind.i64.wrap (s.pg + 1))), .v (.int .i64 0), .v (.int .i64 (nth fs 0).Y)] := by
        simp only [filSV, e2]; rfl
      rw [this, e3]
      rfl
    · have hw : ¬ IntKind.i64.wrap ((s.f : Int) + 1) = (fs.length : Int) := of_decide_eq_false hw
      rw [e1] at hw
      have hlast : ¬ s.f + 1 = fs.length := by omega
      refine Or.inr (Or.inl ⟨16, by kernel_rfl, ?_⟩)
      rw [e1]
      refine And.intro ⟨by omega, by omega⟩ ?_
      refine hgo hno _ rfl rfl rfl rfl rfl ?_
      have : stepS fs s = ⟨s.pg, s.f + 1, (nth fs (s.f + 1)).Y⟩ := by unfold stepS; rw [if_neg hlast]
      rw [this]
      rfl


theorem line_c (fs : List Frame) (l P L : Int) (s : S3) (h : FsOk fs l) (hs : PlOk fs s) (hpg : s.pg ≤ 4294967296) (fv : Value) (w : World) (b : Nat) (S : Nat → Prop) (hS : ∀ k, S k → k < w.heap.size ∧ k ≠ b) (hv : DRep S w (.sl Frame inferInstance 4 Frame.enc fs) fv)
    (hg : w.heap[b]? = some (.cells #[fv, .int .i64 l, .int .i64 P, .int .i64 L, .int .i64 s.pg, .int .i64 s.f, .int .i64 s.t] 52 (0, 0))) :
    Calls Try.prog 21 #[.pointer (some ⟨b, 0, none⟩)] w fun e w' => e = .returned (.bool (decide ((nextF fs l s).pg < 65536))) ∧
      BoxUpd w w' b 52 #[fv, .int .i64 l, .int .i64 P, .int .i64 L, .int .i64 (nextF fs l s).pg, .int .i64 (nextF fs l s).f, .int .i64 (nextF fs l s).t] := by
  refine calls_exec (cf := cf) cfok (fn := Try.f21) Try.func21 rfl [.bx 1 0] [.rd Frame inferInstance 4 Frame.enc fs, .bx 52 (filSV l P L s)] (ρ := fun i => match i with | 0 => fv | _ => .pointer (some ⟨b, 0, none⟩)) (fun k => k < w.heap.size ∧ k ≠ b) rfl rfl rfl (by simp [svOkL, svOk]) (memRdBx (chs := [.rd Frame inferInstance 4 Frame.enc fs]) (t := 52) (cells := filSV l P L s) (b := b) (fun k h => h.1) (fun h => h.2 rfl) ⟨Rd.sub hv hS, trivial⟩ rfl hg (by simp [filSV, svOkL, svOk, snocL])) ?_
  have hM := MS_eq
  let ι := { s' : S3 // PlOk fs s' ∧ nextF fs l s' = nextF fs l s ∧ (fit fs l s' = true ∨ s'.pg ≤ 4294967296) }
  have fin : ∀ s' : S3, nextF fs l s' = nextF fs l s → fit fs l s' = true → ∀ st, lookE st.env 2 = some ⟨2, [], .v (.bool (decide (s'.pg < 65536)))⟩ → chGet st.ch 1 = .bx 52 (filSV l P L s') →
      retK cf (rc w (fun k => k < w.heap.size ∧ k ≠ b) 2 (fun i => match i with | 0 => fv | _ => .pointer (some ⟨b, 0, none⟩)) (fun k => k < w.heap.size ∧ k ≠ b)) Try.f21.results.toList (fun e w' => e = .returned (.bool (decide ((nextF fs l s).pg < 65536))) ∧
      BoxUpd w w' b 52 #[fv, .int .i64 l, .int .i64 P, .int .i64 L, .int .i64 (nextF fs l s).pg, .int .i64 (nextF fs l s).f, .int .i64 (nextF fs l s).t]) .ret st := by
    intro s' hn hfit st h1 h2
    have hs' : nextF fs l s = s' := by rw [← hn]; unfold nextF; rw [if_pos hfit]
    rw [hs']
    show (match resSVs cf.tt st [.tmp 2] with | some l => _ | none => False)
    simp only [resSVs, resSV, getV, h1, subL, List.all_nil]
    intro ρ S' w' hi
    refine ⟨rfl, ?_⟩
    have hb := hi.boxUpd 1 rfl rfl h2
    have h0 := hi.anch 0 (show 0 < 2 by decide)
    simp only at h0
    have : (denL ρ (filSV l P L s')).toArray = #[fv, .int .i64 l, .int .i64 P, .int .i64 L, .int .i64 s'.pg, .int .i64 s'.f, .int .i64 s'.t] := by
      simp only [filSV, denL, den, h0]
    rw [this] at hb
    exact hb
  have stp : ∀ s' : S3, PlOk fs s' → nextF fs l s' = nextF fs l s → s'.pg ≤ 4294967296 → fit fs l s' = false → PlOk fs (stepS fs s') ∧ nextF fs l (stepS fs s') = nextF fs l s ∧ (fit fs l (stepS fs s') = true ∨ (stepS fs s').pg ≤ 4294967296) := by
    intro s' hp hn hpg hf
    have hst := step_ok fs l s' h hp
    have hp0 := hp.p0
    refine ⟨⟨hst.2.2.1, hst.1, by omega, by omega, by omega⟩, ?_, .inl (fit_step fs l s' h hp.f).1⟩
    rw [next_next fs l s' h hp.f, ← hn]
    unfold nextF
    rw [if_neg (by rw [hf]; simp)]
  refine Or.inr ⟨0, rest21, ι, fun i => lst fs l P L i.1, fun i => if fit fs l i.1 then 0 else 1, by kernel_rfl, ?_, fun i => good_of_exec cfok rfl ?_⟩
  · refine line_walk fs l P L s h hs _ (fun hf st h1 h2 => fin s rfl hf st h1 h2) (fun hf st h1 h2 h3 h4 h5 h6 => ?_)
    obtain ⟨q1, q2⟩ := stp s hs rfl hpg hf
    exact ⟨rfl, [0, 1], ⟨stepS fs s, q1, q2⟩, lst_ent fs l P L _ st h1 h2 h3 h4 h5 h6⟩
  · obtain ⟨s', hp, hn, hor⟩ := i
    refine line_walk fs l P L s' h hp _ (fun hf st h1 h2 => fin s' hn hf st h1 h2) (fun hf st h1 h2 h3 h4 h5 h6 => ?_)
    obtain ⟨q1, q2⟩ := stp s' hp hn (hor.resolve_left (by rw [hf]; simp)) hf
    refine ⟨rfl, [0, 1], ⟨stepS fs s', q1, q2⟩, lst_ent fs l P L _ st h1 h2 h3 h4 h5 h6, ?_⟩
    have := (fit_step fs l s' h hp.f).1
    simp only [this, hf]
    decide

end Go.Proofs.Ytllbgbaahggapaa
