/- A table of positionings is read back as it was (plain Lean). -/
import Derived.Test.YtjflgkadagkllaaGreatW1
set_option maxRecDepth 100000
set_option linter.unusedVariables false
namespace Go.Proofs.YtjflgkadagkllaaGreat
open Go Go.Eng Go.RowKit
def fromP (ty : Int) (p : PosU) : PosX := if ty = 2 then .k p.kerns else .m p.marks p.bases
def posW (ty : Int) (p : PosU) : List Int := if ty = 2 then kerW p.kerns else marW (an0 p.bases) p.marks p.bases
structure PRng (p : PosU) : Prop where
 k : ∀ k ∈ p.kerns, (0 <= k.a /\ k.a <= 65535) /\ (0 <= k.b /\ k.b <= 65535) /\ (-32768 <= k.x /\ k.x <= 32767)
 m : ∀ m ∈ p.marks, (0 <= m.g /\ m.g <= 65535) /\ (0 <= m.c /\ m.c <= 65535) /\ (-32768 <= m.x /\ m.x <= 32767) /\ (-32768 <= m.y /\ m.y <= 32767)
 b : ∀ b ∈ p.bases, 0 <= b.g /\ b.g <= 65535
 a : ∀ b ∈ p.bases, ∀ a ∈ b.an, (-32768 <= a.x /\ a.x <= 32767) /\ (-32768 <= a.y /\ a.y <= 32767)
structure RK (g : Int) (p : PosU) : Prop where
 ne : p.kerns ≠ []
 nm : p.marks = []
 nb : p.bases = []
 ok : ∀ k ∈ p.kerns, KOk g k
 lex : ∀ i, 0 < i -> i < p.kerns.length -> kLex (nth p.kerns (i - 1)) (nth p.kerns i)
structure RM (g : Int) (p : PosU) : Prop where
 nk : p.kerns = []
 nm : p.marks ≠ []
 nb : p.bases ≠ []
 n0 : 0 < an0 p.bases
 m : ∀ m ∈ p.marks, MOk g (an0 p.bases : Int) m
 mr : ∀ i, 0 < i -> i < p.marks.length -> (nth p.marks (i - 1)).g < (nth p.marks i).g
 b : ∀ b ∈ p.bases, 0 <= b.g /\ b.g < g /\ b.g <= 65535
 br : ∀ i, 0 < i -> i < p.bases.length -> (nth p.bases (i - 1)).g < (nth p.bases i).g
 bn : ∀ b ∈ p.bases, b.an.length = an0 p.bases
 ba : ∀ b ∈ p.bases, ∀ a ∈ b.an, AOk a
theorem mem_nth {α : Type} [Inhabited α] {l : List α} {x : α} (h : x ∈ l) : ∃ i, i < l.length /\ nth l i = x := by
 obtain ⟨i, hi, rfl⟩ := List.getElem_of_mem h
 exact ⟨i, hi, nthE hi⟩
theorem i64_u16 {n : Int} (h : 0 <= n /\ n <= 65535) : IntKind.i64.wrap n = n := i64_id _ (by omega) (by omega)
theorem pos_right {ty g : Int} {p : PosU} (h : rPos ty p g = true) (hr : PRng p) (hl : lenOk p) : (ty = 2 /\ RK g p) \/ ((ty = 4 \/ ty = 6) /\ ty ≠ 2 /\ RM g p) := by
 obtain ⟨l1, l2, l3, l4⟩ := hl
 unfold rPos at h
 split at h
 · rename_i h2
   left
   simp only [Bool.and_eq_true, decide_eq_true_iff] at h
   obtain ⟨hk, hp, hz⟩ := h
   have hcond : ∀ i, i < p.kerns.length -> KOk g (nth p.kerns i) /\ (0 < i -> kLex (nth p.kerns (i - 1)) (nth p.kerns i)) := by
    intro i hi
    have hc := allN_of hk i hi
    have rg := hr.k _ (nth_mem hi)
    unfold cK at hc
    rw [i64_u16 rg.1, i64_u16 rg.2.1] at hc
    simp only [Bool.or_eq_false_iff, Bool.and_eq_false_iff, decide_eq_false_iff_not] at hc
    refine ⟨⟨by omega, by omega, rg.2.2⟩, fun h0 => ?_⟩
    rcases hc.2 with hh | hh
    · omega
    · rw [pre_eq h0 (by omega)] at hh
      unfold kLex
      omega
   refine ⟨h2, ⟨fun e => by rw [e] at hp; simp at hp, List.eq_nil_of_length_eq_zero (by omega), List.eq_nil_of_length_eq_zero (by omega), fun k hk => ?_, fun i h0 hi => (hcond i hi).2 h0⟩⟩
   obtain ⟨i, hi, rfl⟩ := mem_nth hk
   exact (hcond i hi).1
 · rename_i h2
   right
   split at h
   · cases h
   · rename_i hh
     simp only [Bool.or_eq_true, Bool.and_eq_true, Bool.not_eq_true', decide_eq_true_iff, decide_eq_false_iff_not, not_or, not_and, Decidable.not_not] at hh
     simp only [Bool.and_eq_true, decide_eq_true_iff] at h
     obtain ⟨hm, hb, hn⟩ := h
     obtain ⟨⟨⟨q1, q2⟩, q3⟩, q4⟩ := hh
     have hmc : ∀ i, i < p.marks.length -> MOk g (an0 p.bases : Int) (nth p.marks i) /\ (0 < i -> (nth p.marks (i - 1)).g < (nth p.marks i).g) := by
      intro i hi
      have hc := allN_of hm i hi
      have rg := hr.m _ (nth_mem hi)
      unfold cM at hc
      rw [i64_u16 rg.1, i64_u16 rg.2.1] at hc
      simp only [Bool.or_eq_false_iff, Bool.and_eq_false_iff, decide_eq_false_iff_not] at hc
      refine ⟨⟨by omega, by omega, rg.2.2.1, rg.2.2.2⟩, fun h0 => ?_⟩
      rcases hc.2 with hh | hh
      · omega
      · rw [pre_eq h0 (by omega)] at hh
        omega
     have hbc : ∀ i, i < p.bases.length -> (0 <= (nth p.bases i).g /\ (nth p.bases i).g < g /\ (nth p.bases i).g <= 65535) /\ (nth p.bases i).an.length = an0 p.bases /\ (∀ a ∈ (nth p.bases i).an, AOk a) /\ (0 < i -> (nth p.bases (i - 1)).g < (nth p.bases i).g) := by
      intro i hi
      have hc := allN_of hb i hi
      have rg := hr.b _ (nth_mem hi)
      have ra := hr.a _ (nth_mem hi)
      rw [Bool.or_eq_false_iff, Bool.not_eq_false'] at hc
      obtain ⟨hc1, hc2⟩ := hc
      unfold cB at hc1
      rw [i64_u16 rg] at hc1
      simp only [Bool.or_eq_false_iff, Bool.and_eq_false_iff, Bool.not_eq_false', decide_eq_true_iff, decide_eq_false_iff_not] at hc1
      have hal : (nth p.bases i).an.length = an0 p.bases := by omega
      refine ⟨by omega, hal, fun a ha => ?_, fun h0 => ?_⟩
      · obtain ⟨k, hk, rfl⟩ := mem_nth ha
        have r2 := ra _ (nth_mem hk)
        have hck := allN_of hc2 k (by omega)
        unfold cA at hck
        refine ⟨r2.1, r2.2, fun hf => ?_⟩
        rw [hf] at hck
        simp only [Bool.not_false, Bool.true_and, Bool.or_eq_false_iff, Bool.not_eq_false', decide_eq_true_iff] at hck
        exact hck
      · rcases hc1.2 with hh | hh
        · omega
        · rw [pre_eq h0 (by omega)] at hh
          omega
     refine ⟨by by_cases h4 : ty = 4; exact .inl h4; exact .inr (q1 h4), h2, ?_⟩
     refine ⟨List.eq_nil_of_length_eq_zero (by omega), fun e => by rw [e] at q3; simp at q3, fun e => by rw [e] at q4; simp at q4, by omega, fun m hm => ?_, fun i h0 hi => (hmc i hi).2 h0, fun b hb => ?_, fun i h0 hi => (hbc i hi).2.2.2 h0, fun b hb => ?_, fun b hb => ?_⟩
     · obtain ⟨i, hi, rfl⟩ := mem_nth hm
       exact (hmc i hi).1
     · obtain ⟨i, hi, rfl⟩ := mem_nth hb
       exact (hbc i hi).1
     · obtain ⟨i, hi, rfl⟩ := mem_nth hb
       exact (hbc i hi).2.1
     · obtain ⟨i, hi, rfl⟩ := mem_nth hb
       exact (hbc i hi).2.2.1
theorem bsum_len {bs : List Base} {n : Nat} (hn : ∀ b ∈ bs, b.an.length = n) : (bs.map bWt).sum = bs.length + n * bs.length := by
 induction bs with
 | nil => simp
 | cons b r ih =>
  rw [List.map_cons, List.sum_cons, ih (fun x hx => hn x (List.mem_cons_of_mem _ hx)), List.length_cons, Nat.mul_add, Nat.mul_one]
  unfold bWt
  rw [hn b (List.mem_cons_self ..)]
  omega
theorem aPts_le (l : List Anchor) : (aPts l).flatten.length <= 3 * l.length := by
 induction l with
 | nil => simp [aPts]
 | cons a r ih =>
  have e : (aPts (a :: r)).flatten.length = (if a.has then anchW a.x a.y else []).length + (aPts r).flatten.length := by
   show ((if a.has then anchW a.x a.y else []) :: aPts r).flatten.length = _
   rw [List.flatten_cons, List.length_append]
  rw [e, List.length_cons]
  cases a.has
  · simp only [Bool.false_eq_true, if_false, List.length_nil]; omega
  · have : (if true = true then anchW a.x a.y else []).length = 3 := rfl
    rw [this]; omega
theorem kgrp_le (ks : List Kern) : (kgrp ks).length <= ks.length /\ ((kgrp ks).map fun p => ksetW p.2).flatten.length = (kgrp ks).length + 2 * ks.length := by
 induction ks with
 | nil => exact ⟨Nat.le_refl _, rfl⟩
 | cons k r ih =>
  rw [kgrp]
  cases hg : kgrp r with
  | nil =>
   rw [hg] at ih
   have hr : r.length = 0 := by
    have := ih.2
    simp only [List.map_nil, List.flatten_nil, List.length_nil] at this
    omega
   refine ⟨by simp, ?_⟩
   simp only [List.map_cons, List.map_nil, List.flatten_cons, List.flatten_nil, List.append_nil, ksetW_len, List.length_cons, List.length_nil]
   omega
  | cons p t =>
   obtain ⟨A, l⟩ := p
   rw [hg] at ih
   obtain ⟨i1, i2⟩ := ih
   simp only [List.map_cons, List.flatten_cons, List.length_append, List.length_cons, ksetW_len] at i1 i2
   simp only
   split
   · refine ⟨by simp only [List.length_cons]; omega, ?_⟩
     simp only [List.map_cons, List.flatten_cons, List.length_append, List.length_cons, ksetW_len]
     omega
   · refine ⟨by simp only [List.length_cons]; omega, ?_⟩
     simp only [List.map_cons, List.flatten_cons, List.length_append, List.length_cons, ksetW_len, List.length_nil]
     omega
theorem posW_le {ty g : Int} {p : PosU} (h : (ty = 2 /\ RK g p) \/ ((ty = 4 \/ ty = 6) /\ ty ≠ 2 /\ RM g p)) : (posW ty p).length <= 12 + 6 * pWt p := by
 unfold posW pWt
 rcases h with ⟨h2, hk⟩ | ⟨_, h2, hm⟩
 · rw [if_pos h2]
   unfold kerW
   obtain ⟨g1, g2⟩ := kgrp_le p.kerns
   rw [withW_len _ _ _ (by simp), g2, covW_len, ksOf_len, List.length_map]
   simp only [List.length_cons, List.length_nil]
   omega
 · rw [if_neg h2, marW_len, covW_len, covW_len, arrW_len, tabW_len]
   have e1 : (gsM p.marks).length = p.marks.length := List.length_map _
   have e2 : (gsB p.bases).length = p.bases.length := List.length_map _
   have e3 := ans_len p.bases _ hm.bn
   have e4 := bsum_len hm.bn
   have e5 := aPts_le (ansOf p.bases)
   rw [e1, e2, e4]
   omega
theorem pos_read {W : List Int} {o : Nat} {ty g a s : Int} {p : PosU} (h : At W o (posW ty p)) (hs : 2 * ((posW ty p).length : Int) <= 65535) (ha : a = 2 * (o : Int)) (hp : (ty = 2 /\ RK g p) \/ ((ty = 4 \/ ty = 6) /\ ty ≠ 2 /\ RM g p)) (hsum : s + 2 * (pWt p : Int) <= 65536) :
 ∃ s', posX (wsB W) g ty a s = some (fromP ty p, s') /\ s' <= s + 2 * (pWt p : Int) /\ s <= s' := by
 unfold posW at h hs
 unfold posX fromP
 rcases hp with ⟨h2, hk⟩ | ⟨_, h2, hm⟩
 · rw [if_pos h2] at h hs ⊢
   rw [if_pos h2]
   have hw : pWt p = p.kerns.length := by unfold pWt; rw [hk.nm, hk.nb]; simp
   rw [hw] at hsum ⊢
   obtain ⟨s', e, h1, h3⟩ := ker_read h hs ha hk.ne hk.ok hk.lex hsum
   rw [e]
   exact ⟨s', rfl, h1, h3⟩
 · rw [if_neg h2] at h hs ⊢
   rw [if_neg h2]
   have hw : pWt p = p.marks.length + (p.bases.length + an0 p.bases * p.bases.length) := by unfold pWt; rw [hm.nk, bsum_len hm.bn]; simp
   have hb := tabW_len (an0 p.bases) p.bases
   have hb2 := ans_len p.bases _ hm.bn
   have hb3 := List.length_pos_iff.2 hm.nb
   have hn1 : an0 p.bases <= an0 p.bases * p.bases.length := Nat.le_mul_of_pos_right _ hb3
   have hml := marW_len (an0 p.bases) p.marks p.bases
   rw [hw] at hsum ⊢
   push_cast at hsum ⊢
   have hnn : 0 <= (an0 p.bases : Int) * (p.bases.length : Int) := Int.mul_nonneg (by omega) (by omega)
   have e := mar_read h hs ha hm.n0 (by omega) hm.nm hm.nb hm.m hm.mr hm.b hm.br hm.bn hm.ba (s := s) (by omega)
   rw [e]
   exact ⟨_, rfl, by omega, by omega⟩
theorem sLoop_read {W : List Int} {ty g : Int} : ∀ (ats : List Int) (ps : List PosU) (s : Int) (acc : List PosX), ats.length = ps.length ->
 (∀ j, j < ps.length -> ∃ q : Nat, nth ats j = 2 * (q : Int) /\ At W q (posW ty (nth ps j))) -> (∀ p ∈ ps, (ty = 2 /\ RK g p) \/ ((ty = 4 \/ ty = 6) /\ ty ≠ 2 /\ RM g p)) -> (∀ p ∈ ps, 2 * ((posW ty p).length : Int) <= 65535) ->
 s + 2 * (((ps.map pWt).sum : Nat) : Int) <= 65536 -> sLoop (wsB W) g ty ats s acc = some (acc ++ ps.map (fromP ty))
 | [], [], s, acc, _, _, _, _, _ => by rw [sLoop, List.map_nil, List.append_nil]
 | [], p :: ps, s, acc, h, _, _, _, _ => by simp at h
 | a :: ats, [], s, acc, h, _, _, _, _ => by simp at h
 | a :: ats, p :: ps, s, acc, h, hat, hp, hsz, hs => by
  obtain ⟨q, e, hq⟩ := hat 0 (by simp)
  have e : a = 2 * (q : Int) := e
  have hq : At W q (posW ty p) := hq
  rw [List.map_cons, List.sum_cons] at hs
  push_cast at hs
  obtain ⟨s', r, h1, h2⟩ := pos_read hq (hsz p (List.mem_cons_self ..)) e (hp p (List.mem_cons_self ..)) (s := s) (by omega)
  have ih := sLoop_read ats ps s' (acc ++ [fromP ty p]) (by simpa using h) (fun j hj => hat (j + 1) (by simpa using hj)) (fun x hx => hp x (List.mem_cons_of_mem _ hx)) (fun x hx => hsz x (List.mem_cons_of_mem _ hx)) (by omega)
  rw [sLoop, r]
  simp only
  rw [ih, List.map_cons, List.append_assoc]
  rfl
def toLw (l : LkU) : Lw := ⟨l.ty, l.flag, l.poss.map (posW l.ty)⟩
def fromL (l : LkU) : Lk := ⟨l.ty, l.flag, l.poss.map (fromP l.ty)⟩
structure LRt (g : Int) (l : LkU) : Prop where
 ty : 0 <= l.ty /\ l.ty <= 65535
 flag : 0 <= l.flag /\ l.flag <= 14 /\ l.flag.tmod 2 = 0
 n : 1 <= l.poss.length /\ l.poss.length <= 256
 p : ∀ p ∈ l.poss, (l.ty = 2 /\ RK g p) \/ ((l.ty = 4 \/ l.ty = 6) /\ l.ty ≠ 2 /\ RM g p)
 s : l.subs = []
theorem pos_size {l : LkU} {g : Int} (h : LRt g l) : ((l.poss.map (posW l.ty)).flatten).length <= 12 * l.poss.length + 6 * (l.poss.map pWt).sum := by
 have hp := h.p
 generalize l.poss = ps at *
 induction ps with
 | nil => simp
 | cons p r ih =>
  have h1 := posW_le (hp p (List.mem_cons_self ..))
  have h2 := ih (fun x hx => hp x (List.mem_cons_of_mem _ hx))
  rw [List.map_cons, List.flatten_cons, List.length_append, List.map_cons, List.sum_cons, List.length_cons]
  omega
theorem looks_size {ls : List LkU} {g : Int} (h : ∀ l ∈ ls, LRt g l) : ((ls.map toLw).map lbody).flatten.length <= 13 * wtot ls := by
 induction ls with
 | nil => simp
 | cons l r ih =>
  have h1 := pos_size (h l (List.mem_cons_self ..))
  have h2 := ih (fun x hx => h x (List.mem_cons_of_mem _ hx))
  have e := lbody_len (toLw l)
  unfold wtot at *
  rw [List.map_cons, List.map_cons, List.flatten_cons, List.length_append, e, List.map_cons, List.sum_cons]
  have e1 : (toLw l).subs = l.poss.map (posW l.ty) := rfl
  rw [e1, List.length_map]
  unfold lWt at *
  omega
theorem len_le_wtot (ls : List LkU) : ls.length <= wtot ls := by
 unfold wtot
 induction ls with
 | nil => simp
 | cons l r ih =>
  rw [List.map_cons, List.sum_cons, List.length_cons]
  unfold lWt at *
  omega
theorem wtot_mem {ls : List LkU} {l : LkU} (h : l ∈ ls) : lWt l <= wtot ls := by
 unfold wtot
 induction ls with
 | nil => cases h
 | cons x r ih =>
  rw [List.map_cons, List.sum_cons]
  rcases List.mem_cons.1 h with rfl | h
  · omega
  · have := ih h
    omega
theorem pWt_mem {ps : List PosU} {p : PosU} (h : p ∈ ps) : pWt p <= (ps.map pWt).sum := by
 induction ps with
 | nil => cases h
 | cons x r ih =>
  rw [List.map_cons, List.sum_cons]
  rcases List.mem_cons.1 h with rfl | h
  · omega
  · have := ih h
    omega
theorem lLoop_read {W : List Int} {g : Int} : ∀ (ts : List Tab) (ls : List LkU) (acc : List Lk), ts.length = ls.length -> (∀ i, i < ls.length -> TabR W (toLw (nth ls i)) (nth ts i)) -> (∀ l ∈ ls, LRt g l) -> (∀ l ∈ ls, lWt l <= 1000) ->
 lLoop (wsB W) g ts acc = some (acc ++ ls.map fromL)
 | [], [], acc, _, _, _, _ => by rw [lLoop, List.map_nil, List.append_nil]
 | [], l :: ls, acc, h, _, _, _ => by simp at h
 | t :: ts, [], acc, h, _, _, _ => by simp at h
 | t :: ts, l :: ls, acc, h, hT, hR, hW => by
  have ht : TabR W (toLw l) t := hT 0 (by simp)
  have hr := hR l (List.mem_cons_self ..)
  have hw := hW l (List.mem_cons_self ..)
  have ih := lLoop_read (W := W) (g := g) ts ls (acc ++ [fromL l]) (by simpa using h) (fun i hi => hT (i + 1) (by simpa using hi)) (fun x hx => hR x (List.mem_cons_of_mem _ hx)) (fun x hx => hW x (List.mem_cons_of_mem _ hx))
  have ety : t.ty = l.ty := ht.ty
  have efl : t.flag = l.flag := ht.flag
  have hty : l.ty = 2 \/ l.ty = 4 \/ l.ty = 6 := by
   obtain ⟨p, hp⟩ := List.exists_mem_of_length_pos (l := l.poss) (by have := hr.n.1; omega)
   rcases hr.p p hp with h | h
   · exact .inl h.1
   · exact .inr h.1
  have eL : (toLw l).subs = l.poss.map (posW l.ty) := rfl
  have hn : t.at'.length = l.poss.length := by have := ht.n; rw [eL, List.length_map] at this; exact this
  have hsum : (l.poss.map pWt).sum <= 1000 := by unfold lWt at hw; omega
  have hs := sLoop_read (W := W) (ty := l.ty) (g := g) t.at' l.poss 0 [] hn (fun j hj => by
   obtain ⟨q, e, hq⟩ := ht.ats j (by rw [eL, List.length_map]; exact hj)
   rw [eL, nth_map _ hj] at hq
   exact ⟨q, e, hq⟩) hr.p (fun p hp => by
   have h1 := posW_le (hr.p p hp)
   have h2 := pWt_mem hp
   omega) (by omega)
  rw [lLoop, ety, if_pos hty, hs, efl]
  simp only [List.nil_append]
  rw [show (⟨l.ty, l.flag, l.poss.map (fromP l.ty)⟩ : Lk) = fromL l from rfl, ih, List.map_cons, List.append_assoc]
  rfl
theorem feat_size {fs : List Feat} (h1 : fs.length <= 20) (h2 : ∀ f ∈ fs, f.ks.length <= 20) : (featW fs).length <= 501 := by
 rw [featW_len]
 have : ∀ (l : List Feat), (∀ f ∈ l, f.ks.length <= 20) -> (fbodies l).flatten.length <= 22 * l.length := by
  intro l
  induction l with
  | nil => intro _; simp [fbodies]
  | cons f r ih =>
   intro h
   have a := ih (fun x hx => h x (List.mem_cons_of_mem _ hx))
   have b := h f (List.mem_cons_self ..)
   have e : (fbodies (f :: r)).flatten.length = (f.ks.length + 2) + (fbodies r).flatten.length := by
    show (fbody f :: fbodies r).flatten.length = _
    rw [List.flatten_cons, List.length_append]
    rfl
   rw [e, List.length_cons]
   omega
 have := this fs h2
 omega
theorem table_size {ls : List LkU} {fs : List Feat} {g : Int} (h : ∀ l ∈ ls, LRt g l) (hw : wtot ls <= 1000) (h1 : fs.length <= 20) (h2 : ∀ f ∈ fs, f.ks.length <= 20) : (tableW (ls.map toLw) fs).length <= 20000 := by
 rw [tableW_len, looksW_len, List.length_map]
 have a := looks_size h
 have b := feat_size h1 h2
 have c := len_le_wtot ls
 omega
theorem back_plain {ls : List LkU} {fs : List Feat} {g : Int} (h : ∀ l ∈ ls, LRt g l) (hw : wtot ls <= 1000) (hn : ls.length <= 256) (hf : ∀ f ∈ fs, FOk (ls.length : Int) f) (h1 : fs.length <= 20) (h2 : ∀ f ∈ fs, f.ks.length <= 20) :
 parseX (wsB (tableW (ls.map toLw) fs)) g = some (ls.map fromL, fs) := by
 have hsz := table_size h hw h1 h2
 have hlen : (ls.map toLw).length = ls.length := List.length_map _
 obtain ⟨t0, t1, t2, ts, t3, t4, t5, t6⟩ := table_head (ls := ls.map toLw) (fs := fs) (by omega) (fun l hl => by
  obtain ⟨x, hx, rfl⟩ := List.mem_map.1 hl
  have := h x hx
  exact ⟨this.ty, this.flag, by show 1 <= (x.poss.map (posW x.ty)).length /\ (x.poss.map (posW x.ty)).length <= 256; rw [List.length_map]; exact this.n⟩) (by omega) (by rw [hlen]; exact hf) (by omega)
 unfold parseX
 rw [if_neg (fun hh => hh t0), if_neg (fun hh => hh t1), if_neg (fun hh => hh t2), t3]
 simp only
 rw [t6]
 simp only
 have := lLoop_read (W := tableW (ls.map toLw) fs) (g := g) ts ls [] (by omega) (fun i hi => by
  have := t5 i (by omega)
  rwa [nth_map _ hi] at this) h (fun l hl => Nat.le_trans (wtot_mem hl) hw)
 rw [this]
 rfl
end Go.Proofs.YtjflgkadagkllaaGreat
