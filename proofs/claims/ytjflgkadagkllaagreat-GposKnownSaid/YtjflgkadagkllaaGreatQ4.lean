/- Features and lists of lookups as tables, and how they are read (plain Lean). -/
import Derived.Test.YtjflgkadagkllaaGreatQ3
set_option maxRecDepth 100000
set_option linter.unusedVariables false
namespace Go.Proofs.YtjflgkadagkllaaGreat
open Go Go.Eng Go.RowKit
def fbody (f : Feat) : List Int := 0 :: (f.ks.length : Int) :: f.ks
def fbodies (fs : List Feat) : List (List Int) := fs.map fbody
def frec : Int -> List Feat -> List Int
 | _, [] => []
 | d, f :: r => (f.a * 256 + f.b) :: (f.c * 256 + f.d) :: d :: frec (d + 2 * ((fbody f).length : Int)) r
def featW (fs : List Feat) : List Int := [(fs.length : Int)] ++ frec (2 + 6 * (fs.length : Int)) fs ++ (fbodies fs).flatten
theorem frec_len : ∀ (d : Int) (fs : List Feat), (frec d fs).length = 3 * fs.length
 | _, [] => rfl
 | d, f :: r => by rw [frec, List.length_cons, List.length_cons, List.length_cons, List.length_cons, frec_len]; omega
theorem frec_nth : ∀ (fs : List Feat) (d : Int) (i : Nat), i < fs.length -> nth (frec d fs) (3 * i) = (nth fs i).a * 256 + (nth fs i).b /\ nth (frec d fs) (3 * i + 1) = (nth fs i).c * 256 + (nth fs i).d /\ nth (frec d fs) (3 * i + 2) = d + 2 * (((fbodies fs).take i).flatten.length : Int)
 | [], _, i, h => absurd h (Nat.not_lt_zero _)
 | f :: r, d, 0, _ => ⟨rfl, rfl, by show d = _; simp⟩
 | f :: r, d, i + 1, h => by
  obtain ⟨h1, h2, h3⟩ := frec_nth r (d + 2 * ((fbody f).length : Int)) i (by simpa using h)
  refine ⟨h1, h2, ?_⟩
  have e : nth (frec d (f :: r)) (3 * (i + 1) + 2) = nth (frec (d + 2 * ((fbody f).length : Int)) r) (3 * i + 2) := rfl
  have e1 : ((fbodies (f :: r)).take (i + 1)).flatten.length = (fbody f).length + ((fbodies r).take i).flatten.length := by
   show ((fbody f :: fbodies r).take (i + 1)).flatten.length = _
   rw [List.take_succ_cons, List.flatten_cons, List.length_append]
  rw [e, h3, e1]
  push_cast
  omega
theorem featW_len (fs : List Feat) : (featW fs).length = 1 + 3 * fs.length + (fbodies fs).flatten.length := by
 unfold featW
 rw [List.length_append, List.length_append, frec_len]
 rfl
structure FOk (L : Int) (f : Feat) : Prop where
 a : 0 <= f.a /\ f.a <= 255
 b : 0 <= f.b /\ f.b <= 255
 c : 0 <= f.c /\ f.c <= 255
 d : 0 <= f.d /\ f.d <= 255
 k : ∀ x ∈ f.ks, 0 <= x /\ x < L
 r : ∀ i, 0 < i -> i < f.ks.length -> nth f.ks (i - 1) < nth f.ks i
theorem chn_pair : ∀ (l : List Int) (lo : Int), chn lo l -> l.Pairwise (· < ·)
 | [], _, _ => List.Pairwise.nil
 | x :: r, lo, h => List.pairwise_cons.2 ⟨fun y hy => chn_gt r x h.2 y hy, chn_pair r x h.2⟩
theorem ksF_id {l : List Int} (h : l.Pairwise (· < ·)) : ksF l = l := by
 unfold ksF
 have hs : (l.mergeSort fun x y => decide (x <= y)).Pairwise (· <= ·) := by
  have := List.pairwise_mergeSort (le := fun x y : Int => decide (x <= y)) (fun a b c h1 h2 => by simp at *; omega) (fun a b => by simp; omega) l
  exact this.imp fun h => by simpa using h
 refine strict_ext (compact_strict _ hs) h fun x => ?_
 rw [compact_mem]
 exact List.mem_mergeSort
theorem byte_at {W : List Int} {k : Nat} {x y : Int} (h : k < W.length) (hx : 0 <= x /\ x <= 255) (hy : 0 <= y /\ y <= 255) (hn : nth W k = x * 256 + y) : nth (wsB W) (2 * k) = x /\ nth (wsB W) (2 * k + 1) = y := by
 obtain ⟨h1, h2⟩ := wsB_nth W k h
 rw [h1, h2, hn, hiB_val (by omega), loB_val (by omega)]
 omega
theorem feat_read {W : List Int} {o : Nat} {fs : List Feat} (h : At W o (featW fs)) (hs : 2 * ((featW fs).length : Int) <= 65535) {a L : Int} (ha : a = 2 * (o : Int)) (hL : L <= 65536) (hf : ∀ f ∈ fs, FOk L f) (hn : fs.length <= 512) : featX (wsB W) a L = some fs := by
 have hlen := featW_len fs
 have hwl := h.len (by omega)
 rw [hlen] at hs hwl
 have hH : At W o [(fs.length : Int)] := h.l.l
 have hR : At W (o + 1) (frec (2 + 6 * (fs.length : Int)) fs) := h.l.r rfl
 have hrl := frec_len (2 + 6 * (fs.length : Int)) fs
 have hP : At W (o + 1 + 3 * fs.length) (fbodies fs).flatten := by
  refine At.r h ?_
  rw [List.length_append, hrl]
  show o + 1 + 3 * fs.length = o + (1 + 3 * fs.length)
  omega
 have r0 := hH.read (i := 0) (by simp) (show (0 : Int) <= (fs.length : Int) /\ (fs.length : Int) <= 65535 by omega) (a := a) (by omega)
 have v0 : wA (wsB W) a = (fs.length : Int) := r0.2
 have eN : fN (wsB W) a = fs.length := by
  unfold fN
  rw [w2_dropI (by omega), show a + ((0 : Nat) : Int) = a by omega, v0, Int.toNat_natCast]
 have hbl : (fbodies fs).length = fs.length := List.length_map _
 have each : ∀ i, i < fs.length -> ∃ q : Nat, fT (wsB W) a i = 2 * (q : Int) /\ At W q (fbody (nth fs i)) := by
  intro i hi
  obtain ⟨_, _, n3⟩ := frec_nth fs (2 + 6 * (fs.length : Int)) i hi
  have tl := take_flat_le (fbodies fs) i
  have r := hR.read (i := 3 * i + 2) (by omega) (by rw [n3]; omega) (a := a + ((6 * i + 6 : Nat) : Int)) (by push_cast; omega)
  rw [n3] at r
  refine ⟨o + 1 + 3 * fs.length + ((fbodies fs).take i).flatten.length, ?_, ?_⟩
  · unfold fT
    rw [w2_dropI (by omega), r.2]
    push_cast
    omega
  · have := At.flat hP (i := i) (by rw [hbl]; exact hi)
    have e : nth (fbodies fs) i = fbody (nth fs i) := by unfold fbodies; rw [nth_map _ hi]
    rwa [e] at this
 have kl : ∀ i, i < fs.length -> (nth fs i).ks.length <= 32767 := by
  intro i hi
  have := nth_flat_le (fbodies fs) i (by rw [hbl]; exact hi)
  have e : nth (fbodies fs) i = fbody (nth fs i) := by unfold fbodies; rw [nth_map _ hi]
  rw [e] at this
  have e2 : (fbody (nth fs i)).length = (nth fs i).ks.length + 2 := rfl
  omega
 have row : ∀ i, i < fs.length -> ∃ q : Nat, fT (wsB W) a i = 2 * (q : Int) /\ At W q (fbody (nth fs i)) /\ rowW (wsB W) (2 * (q : Int)) = (nth fs i).ks := by
  intro i hi
  obtain ⟨q, e, hq⟩ := each i hi
  have hk := kl i hi
  have hfo := hf _ (nth_mem hi)
  have e2 : (fbody (nth fs i)).length = (nth fs i).ks.length + 2 := rfl
  refine ⟨q, e, hq, ?_⟩
  have r1 := hq.read (i := 1) (by omega) (show (0 : Int) <= ((nth fs i).ks.length : Int) /\ ((nth fs i).ks.length : Int) <= 65535 by omega) (a := 2 * (q : Int) + ((2 : Nat) : Int)) (by push_cast; omega)
  have v1 : wA (wsB W) (2 * (q : Int) + ((2 : Nat) : Int)) = ((nth fs i).ks.length : Int) := r1.2
  unfold rowW
  rw [w2_dropI (by omega), v1, Int.toNat_natCast]
  refine nth_extO (by simp) fun j hj => ?_
  have hj : j < (nth fs i).ks.length := by simpa using hj
  have hkj := hfo.k _ (nth_mem hj)
  have en : nth (fbody (nth fs i)) (j + 2) = nth (nth fs i).ks j := rfl
  have r := hq.read (i := j + 2) (by omega) (by rw [en]; omega) (a := 2 * (q : Int) + ((4 + 2 * j : Nat) : Int)) (by push_cast; omega)
  rw [en] at r
  rw [nthE (by simpa using hj), List.getElem_map, List.getElem_range, w2_dropI (by omega), r.2]
 unfold featX
 rw [r0.1, if_neg (by decide), eN, if_neg (by
  intro h
  rcases h with h | h
  · omega
  · rw [show outR (wsB W) (a + 2) (6 * (fs.length : Int)) = false from by rw [outR_iff, wsB_len]; omega] at h
    cases h)]
 rw [if_pos (List.all_eq_true.2 fun i hi => ?_)]
 · refine congrArg some (List.ext_getElem (by simp) fun i h1 h2 => ?_)
   rw [List.getElem_map, List.getElem_range, <- nthE h2]
   obtain ⟨q, e, hq, hrow⟩ := row i h2
   have hfo := hf _ (nth_mem h2)
   obtain ⟨n1, n2, _⟩ := frec_nth fs (2 + 6 * (fs.length : Int)) i h2
   have hR1 := hR.nth (i := 3 * i) (by omega)
   have hR2 := hR.nth (i := 3 * i + 1) (by omega)
   rw [n1] at hR1
   rw [n2] at hR2
   have b1 := byte_at (W := W) (k := o + 1 + 3 * i) (by omega) hfo.a hfo.b hR1
   have b2 := byte_at (W := W) (k := o + 1 + (3 * i + 1)) (by omega) hfo.c hfo.d hR2
   unfold fAt
   have eo : a.toNat = 2 * o := by omega
   rw [e, hrow, ksF_id (chn_pair _ (-1) (chn_of _ _ (fun hl => by have := (hfo.k _ (nth_mem hl)).1; omega) hfo.r)), nth_drop, nth_drop, nth_drop, nth_drop, eo,
    show 2 * o + (6 * i + 2) = 2 * (o + 1 + 3 * i) by omega, show 2 * o + (6 * i + 3) = 2 * (o + 1 + 3 * i) + 1 by omega, show 2 * o + (6 * i + 4) = 2 * (o + 1 + (3 * i + 1)) by omega, show 2 * o + (6 * i + 5) = 2 * (o + 1 + (3 * i + 1)) + 1 by omega, b1.1, b1.2, b2.1, b2.2]
 · have hi : i < fs.length := List.mem_range.1 hi
   obtain ⟨q, e, hq, hrow⟩ := row i hi
   have hk := kl i hi
   have hfo := hf _ (nth_mem hi)
   have e2 : (fbody (nth fs i)).length = (nth fs i).ks.length + 2 := rfl
   have hql := hq.len (by omega)
   have r0 := hq.read (i := 0) (by omega) (show (0 : Int) <= 0 /\ (0 : Int) <= 65535 by omega) (a := 2 * (q : Int)) rfl
   have r1 := hq.read (i := 1) (by omega) (show (0 : Int) <= ((nth fs i).ks.length : Int) /\ ((nth fs i).ks.length : Int) <= 65535 by omega) (a := 2 * (q : Int) + ((2 : Nat) : Int)) (by push_cast; omega)
   have v0 : wA (wsB W) (2 * (q : Int)) = 0 := r0.2
   have v1 : wA (wsB W) (2 * (q : Int) + ((2 : Nat) : Int)) = ((nth fs i).ks.length : Int) := r1.2
   unfold okT
   rw [e, hrow, w2_dropI (by omega), w2_dropI (by omega), show 2 * (q : Int) + ((0 : Nat) : Int) = 2 * (q : Int) by omega, v0, v1, show outR (wsB W) (2 * (q : Int)) 4 = false from by rw [outR_iff, wsB_len]; omega, show outR (wsB W) (2 * (q : Int) + 4) (2 * ((nth fs i).ks.length : Int)) = false from by rw [outR_iff, wsB_len]; omega]
   have : ((nth fs i).ks.all fun x => decide (x < L)) = true := List.all_eq_true.2 fun x hx => decide_eq_true (hfo.k x hx).2
   rw [this]
   rfl
structure Lw where
 ty : Int
 flag : Int
 subs : List (List Int)
 deriving Inhabited
def lbody (l : Lw) : List Int := [l.ty, l.flag, (l.subs.length : Int)] ++ offs (6 + 2 * (l.subs.length : Int)) l.subs ++ l.subs.flatten
theorem lbody_len (l : Lw) : (lbody l).length = 3 + l.subs.length + l.subs.flatten.length := by
 unfold lbody
 rw [List.length_append, List.length_append, offs_len]
 rfl
def looksW (ls : List Lw) : List Int := [(ls.length : Int)] ++ offs (2 + 2 * (ls.length : Int)) (ls.map lbody) ++ (ls.map lbody).flatten
theorem looksW_len (ls : List Lw) : (looksW ls).length = 1 + ls.length + (ls.map lbody).flatten.length := by
 unfold looksW
 rw [List.length_append, List.length_append, offs_len, List.length_map]
 rfl
structure LOk (l : Lw) : Prop where
 ty : 0 <= l.ty /\ l.ty <= 65535
 flag : 0 <= l.flag /\ l.flag <= 14 /\ l.flag.tmod 2 = 0
 n : 1 <= l.subs.length /\ l.subs.length <= 256
theorem flagF_even {n : Int} (h : 0 <= n /\ n <= 14 /\ n.tmod 2 = 0) : flagF n = n := by
 obtain ⟨k, rfl⟩ : ∃ k : Nat, n = (k : Int) := ⟨n.toNat, by omega⟩
 have hk : k <= 14 := by omega
 have h2 : ∀ k, k <= 14 -> ((k : Nat) : Int).tmod 2 = 0 -> flagF (k : Int) = (k : Int) := by decide +kernel
 exact h2 k hk h.2.2
structure TabR (W : List Int) (l : Lw) (t : Tab) : Prop where
 ty : t.ty = l.ty
 flag : t.flag = l.flag
 n : t.at'.length = l.subs.length
 ats : ∀ j, j < l.subs.length -> ∃ q : Nat, nth t.at' j = 2 * (q : Int) /\ At W q (nth l.subs j)
theorem looks_read {W : List Int} {o : Nat} {ls : List Lw} (h : At W o (looksW ls)) (hs : 2 * ((looksW ls).length : Int) <= 65535) {a : Int} (ha : a = 2 * (o : Int)) (hl : ∀ l ∈ ls, LOk l) (hn : ls.length <= 256) :
 ∃ ts, lookX (wsB W) a = some ts /\ ts.length = ls.length /\ ∀ i, i < ls.length -> TabR W (nth ls i) (nth ts i) := by
 have hlen := looksW_len ls
 have hwl := h.len (by omega)
 rw [hlen] at hs hwl
 have hH : At W o [(ls.length : Int)] := h.l.l
 have hR : At W (o + 1) (offs (2 + 2 * (ls.length : Int)) (ls.map lbody)) := h.l.r rfl
 have hrl : (offs (2 + 2 * (ls.length : Int)) (ls.map lbody)).length = ls.length := by rw [offs_len, List.length_map]
 have hP : At W (o + 1 + ls.length) (ls.map lbody).flatten := by
  refine At.r h ?_
  rw [List.length_append, hrl]
  show o + 1 + ls.length = o + (1 + ls.length)
  omega
 have r0 := hH.read (i := 0) (by simp) (show (0 : Int) <= (ls.length : Int) /\ (ls.length : Int) <= 65535 by omega) (a := a) (by omega)
 have v0 : wA (wsB W) a = (ls.length : Int) := r0.2
 have eN : lkN (wsB W) a = ls.length := by
  unfold lkN
  rw [w2_dropI (by omega), show a + ((0 : Nat) : Int) = a by omega, v0, Int.toNat_natCast]
 have each : ∀ i, i < ls.length -> ∃ q : Nat, lkT (wsB W) a i = 2 * (q : Int) /\ At W q (lbody (nth ls i)) /\ (lbody (nth ls i)).length <= 32767 := by
  intro i hi
  have hb : i < (ls.map lbody).length := by rw [List.length_map]; exact hi
  have n3 := offs_nth (2 + 2 * (ls.length : Int)) (ls.map lbody) i hb
  have tl := take_flat_le (ls.map lbody) i
  have tn := nth_flat_le (ls.map lbody) i hb
  have r := hR.read (i := i) (by omega) (by rw [n3]; omega) (a := a + ((2 + 2 * i : Nat) : Int)) (by push_cast; omega)
  rw [n3] at r
  have e : nth (ls.map lbody) i = lbody (nth ls i) := nth_map _ hi
  rw [e] at tn
  refine ⟨o + 1 + ls.length + ((ls.map lbody).take i).flatten.length, ?_, ?_, by omega⟩
  · unfold lkT
    rw [w2_dropI (by omega), r.2]
    push_cast
    omega
  · have := At.flat hP (i := i) hb
    rwa [e] at this
 have look : ∀ i, i < ls.length -> okL (wsB W) (lkT (wsB W) a i) = true /\ TabR W (nth ls i) (lkAt (wsB W) (lkT (wsB W) a i)) := by
  intro i hi
  obtain ⟨q, e, hq, hlb⟩ := each i hi
  obtain ⟨k1, k2, k3⟩ := hl _ (nth_mem hi)
  generalize nth ls i = l at *
  have hbl := lbody_len l
  have hql := hq.len (by omega)
  rw [hbl] at hlb hql
  have hq1 : At W q [l.ty, l.flag, (l.subs.length : Int)] := (show At W q (_ ++ _) from hq.l).l
  have hol := offs_len (6 + 2 * (l.subs.length : Int)) l.subs
  have hq2 : At W (q + 3) (offs (6 + 2 * (l.subs.length : Int)) l.subs) := (show At W q (_ ++ _) from hq.l).r rfl
  have hq3 : At W (q + 3 + l.subs.length) l.subs.flatten := by
   refine At.r (show At W q (_ ++ _) from hq) ?_
   rw [List.length_append, hol]
   show q + 3 + l.subs.length = q + (3 + l.subs.length)
   omega
  have s0 := hq1.read (i := 0) (by simp) (show (0 : Int) <= l.ty /\ l.ty <= 65535 from k1) (a := 2 * (q : Int) + ((0 : Nat) : Int)) (by push_cast; omega)
  have s1 := hq1.read (i := 1) (by simp) (show (0 : Int) <= l.flag /\ l.flag <= 65535 by omega) (a := 2 * (q : Int) + ((2 : Nat) : Int)) (by push_cast; omega)
  have s2 := hq1.read (i := 2) (by simp) (show (0 : Int) <= (l.subs.length : Int) /\ (l.subs.length : Int) <= 65535 by omega) (a := 2 * (q : Int) + ((4 : Nat) : Int)) (by push_cast; omega)
  have w0 : wA (wsB W) (2 * (q : Int) + ((0 : Nat) : Int)) = l.ty := s0.2
  have w1 : wA (wsB W) (2 * (q : Int) + ((2 : Nat) : Int)) = l.flag := s1.2
  have w2' : wA (wsB W) (2 * (q : Int) + ((4 : Nat) : Int)) = (l.subs.length : Int) := s2.2
  have ek : lkK (wsB W) (2 * (q : Int)) = (l.subs.length : Int) := by
   unfold lkK
   rw [w2_dropI (by omega), w2']
  constructor
  · unfold okL
    rw [e, ek, w2_dropI (by omega), w1, show outR (wsB W) (2 * (q : Int)) 6 = false from by rw [outR_iff, wsB_len]; omega, show outR (wsB W) (2 * (q : Int) + 6) (2 * (l.subs.length : Int)) = false from by rw [outR_iff, wsB_len]; omega, decide_eq_false (show ¬ (l.subs.length : Int) < 1 by omega), decide_eq_false (show ¬ (l.subs.length : Int) > 256 by omega), decide_eq_true (show l.flag <= 15 by omega)]
    rfl
  · have hat : (lkAt (wsB W) (lkT (wsB W) a i)).at'.length = l.subs.length := by
     unfold lkAt
     rw [e, ek, List.length_map, List.length_range, Int.toNat_natCast]
    refine ⟨?_, ?_, hat, fun j hj => ?_⟩
    · unfold lkAt
      rw [e, w2_dropI (by omega), w0]
    · rw [e]
      show flagF (w2 ((wsB W).drop (2 * (q : Int)).toNat) 2) = l.flag
      rw [w2_dropI (by omega), w1]
      exact flagF_even k2
    · have n3 := offs_nth (6 + 2 * (l.subs.length : Int)) l.subs j hj
      have tl := take_flat_le l.subs j
      have r := hq2.read (i := j) (by omega) (by rw [n3]; omega) (a := 2 * (q : Int) + ((6 + 2 * j : Nat) : Int)) (by push_cast; omega)
      rw [n3] at r
      refine ⟨q + 3 + l.subs.length + (l.subs.take j).flatten.length, ?_, At.flat hq3 hj⟩
      rw [nthE (by rw [hat]; exact hj)]
      unfold lkAt
      simp only [List.getElem_map, List.getElem_range]
      rw [e, w2_dropI (by omega), r.2]
      push_cast
      omega
 refine ⟨(List.range ls.length).map fun i => lkAt (wsB W) (lkT (wsB W) a i), ?_, by simp, fun i hi => ?_⟩
 · unfold lookX
   rw [r0.1, if_neg (by decide), eN, if_neg (by
    intro h
    rcases h with h | h
    · omega
    · rw [show outR (wsB W) (a + 2) (2 * (ls.length : Int)) = false from by rw [outR_iff, wsB_len]; omega] at h
      cases h), if_pos (List.all_eq_true.2 fun i hi => (look i (List.mem_range.1 hi)).1)]
 · have e : nth ((List.range ls.length).map fun i => lkAt (wsB W) (lkT (wsB W) a i)) i = lkAt (wsB W) (lkT (wsB W) a i) := by rw [nthE (by simpa using hi), List.getElem_map, List.getElem_range]
   rw [e]
   exact (look i hi).2
def tableW (ls : List Lw) (fs : List Feat) : List Int := [1, 0, 10, 10, 10 + 2 * ((featW fs).length : Int)] ++ featW fs ++ looksW ls
theorem tableW_len (ls : List Lw) (fs : List Feat) : (tableW ls fs).length = 5 + (featW fs).length + (looksW ls).length := by
 unfold tableW
 rw [List.length_append, List.length_append]
 rfl
theorem table_head {ls : List Lw} {fs : List Feat} (hs : 2 * ((tableW ls fs).length : Int) <= 65535) (hl : ∀ l ∈ ls, LOk l) (hn : ls.length <= 256) (hf : ∀ f ∈ fs, FOk (ls.length : Int) f) (hfn : fs.length <= 512) :
 ((wsB (tableW ls fs)).length : Int) >= 10 /\ wA (wsB (tableW ls fs)) 0 = 1 /\ wA (wsB (tableW ls fs)) 2 = 0 /\
 ∃ ts, lookX (wsB (tableW ls fs)) (wA (wsB (tableW ls fs)) 8) = some ts /\ ts.length = ls.length /\ (∀ i, i < ls.length -> TabR (tableW ls fs) (nth ls i) (nth ts i)) /\ featX (wsB (tableW ls fs)) (wA (wsB (tableW ls fs)) 6) (ts.length : Int) = some fs := by
 have h := At.self (tableW ls fs)
 rw [tableW_len] at hs
 have hH : At (tableW ls fs) 0 [1, 0, 10, 10, 10 + 2 * ((featW fs).length : Int)] := (show At (tableW ls fs) 0 (_ ++ _ ++ _) from h).l.l
 have hF : At (tableW ls fs) 5 (featW fs) := (show At (tableW ls fs) 0 (_ ++ _ ++ _) from h).l.r rfl
 have hL : At (tableW ls fs) (5 + (featW fs).length) (looksW ls) := (show At (tableW ls fs) 0 (_ ++ _ ++ _) from h).r (by rw [List.length_append]; show _ = 0 + (5 + _); omega)
 have r0 := hH.read (i := 0) (by simp) (show (0 : Int) <= 1 /\ (1 : Int) <= 65535 by omega) (a := 0) (by omega)
 have r1 := hH.read (i := 1) (by simp) (show (0 : Int) <= 0 /\ (0 : Int) <= 65535 by omega) (a := 2) (by omega)
 have r3 := hH.read (i := 3) (by simp) (show (0 : Int) <= 10 /\ (10 : Int) <= 65535 by omega) (a := 6) (by omega)
 have r4 := hH.read (i := 4) (by simp) (show (0 : Int) <= 10 + 2 * ((featW fs).length : Int) /\ 10 + 2 * ((featW fs).length : Int) <= 65535 by push_cast at hs; omega) (a := 8) (by omega)
 have v0 : wA (wsB (tableW ls fs)) 0 = 1 := r0.2
 have v1 : wA (wsB (tableW ls fs)) 2 = 0 := r1.2
 have v3 : wA (wsB (tableW ls fs)) 6 = 10 := r3.2
 have v4 : wA (wsB (tableW ls fs)) 8 = 10 + 2 * ((featW fs).length : Int) := r4.2
 obtain ⟨ts, t1, t2, t3⟩ := looks_read hL (by push_cast at hs; omega) (a := 10 + 2 * ((featW fs).length : Int)) (by push_cast; omega) hl hn
 refine ⟨by rw [wsB_len, tableW_len]; push_cast; omega, v0, v1, ts, by rw [v4]; exact t1, t2, t3, ?_⟩
 rw [v3, t2]
 exact feat_read hF (by push_cast at hs; omega) (by omega) (by omega) hf hfn
end Go.Proofs.YtjflgkadagkllaaGreat
