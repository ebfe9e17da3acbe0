/- What gpos.Parse reads is such as is promised: marks, lookups, features. -/
import Derived.Test.YtjflgkadagkllaaGreatN11
set_option maxRecDepth 100000
set_option linter.unusedVariables false
namespace Go.Proofs.YtjflgkadagkllaaGreat
open Go Go.Eng Go.RowKit
theorem mLoop_is {b : List Int} {n f : Int} (hB : Byt b) : ∀ (l : List Int) (i : Nat) (s : Int) (acc : List Mark) (r : List Mark × Int), mLoop b n f l i s acc = some r ->
 ∃ new, r.1 = acc ++ new /\ new.map Mark.g = l /\ r.2 = s + (new.length : Int) /\ (0 < new.length -> r.2 <= 65536) /\ (∀ k ∈ new, k.c < n /\ 0 <= k.c /\ k.c <= 65535)
 | [], i, s, acc, r, h => by
  cases h
  exact ⟨[], by simp, rfl, by simp, fun h => absurd h (by simp), fun k hk => (by cases hk)⟩
 | G :: l, i, s, acc, r, h => by
  rw [mLoop] at h
  split at h
  · cases h
  · split at h
    · cases h
    · rename_i h2
      split at h
      · cases h
      · split at h
        · cases h
        · rename_i x y s' hp
          obtain ⟨p1, p2⟩ := pointX_s hp
          simp only at p1
          obtain ⟨new, e1, e2, e3, e4, e5⟩ := mLoop_is hB l (i + 1) s' _ r h
          have hr := wA_range hB (f + 2 + 4 * (i : Int))
          have ew := u16w hr
          refine ⟨⟨G, IntKind.u16.wrap (wA b (f + 2 + 4 * (i : Int))), x, y⟩ :: new, by rw [e1, List.append_assoc]; rfl, by rw [List.map_cons, e2], by rw [e3, List.length_cons]; omega, fun _ => ?_, ?_⟩
          · by_cases hm : 0 < new.length
            · exact e4 hm
            · rw [e3]; omega
          · intro k hk
            rcases List.mem_cons.1 hk with rfl | hk
            · rw [ew]; exact ⟨by show wA b (f + 2 + 4 * (i : Int)) < n; omega, hr.1, hr.2⟩
            · exact e5 k hk
theorem aLoop_is {b : List Int} {e : Int} {n i : Nat} : ∀ (m k : Nat) (s : Int) (acc : List Anchor) (r : List Anchor × Int), aLoop b e n i m k s acc = some r ->
 ∃ new, r.1 = acc ++ new /\ new.length = m /\ r.2 = s + (new.length : Int) /\ (0 < new.length -> r.2 <= 65536) /\ (∀ a ∈ new, a.has = true \/ (a.x = 0 /\ a.y = 0))
 | 0, k, s, acc, r, h => by
  cases h
  exact ⟨[], by simp, rfl, by simp, fun h => absurd h (by simp), fun k hk => (by cases hk)⟩
 | m + 1, k, s, acc, r, h => by
  have key : ∀ (s' : Int) (a : Anchor), s' = s + 1 -> s + 1 <= 65536 -> (a.has = true \/ (a.x = 0 /\ a.y = 0)) -> aLoop b e n i m (k + 1) s' (acc ++ [a]) = some r -> ∃ new, r.1 = acc ++ new /\ new.length = m + 1 /\ r.2 = s + (new.length : Int) /\ (0 < new.length -> r.2 <= 65536) /\ (∀ a ∈ new, a.has = true \/ (a.x = 0 /\ a.y = 0)) := by
   intro s' a hs h1 ha h
   obtain ⟨new, e1, e2, e3, e4, e5⟩ := aLoop_is m (k + 1) s' _ r h
   refine ⟨a :: new, by rw [e1, List.append_assoc]; rfl, by rw [List.length_cons, e2], by rw [e3, List.length_cons]; omega, fun _ => ?_, ?_⟩
   · by_cases hm : 0 < new.length
     · exact e4 hm
     · rw [e3]; omega
   · intro k hk
     rcases List.mem_cons.1 hk with rfl | hk
     · exact ha
     · exact e5 k hk
  rw [aLoop] at h
  split at h
  · cases h
  · split at h
    · split at h
      · cases h
      · exact key _ _ rfl (by omega) (.inr ⟨rfl, rfl⟩) h
    · split at h
      · cases h
      · rename_i x y s' hp
        obtain ⟨p1, p2⟩ := pointX_s hp
        exact key _ _ p1 p2 (.inl rfl) h
theorem bLoop_is {b : List Int} {e : Int} {n : Nat} : ∀ (l : List Int) (i : Nat) (s : Int) (acc : List Base) (r : List Base × Int), bLoop b e n l i s acc = some r ->
 ∃ new, r.1 = acc ++ new /\ new.map Base.g = l /\ s <= r.2 /\ (∀ x ∈ new, x.an.length = n /\ (0 < n -> (n : Int) <= r.2 - s /\ r.2 <= 65536) /\ (∀ a ∈ x.an, a.has = true \/ (a.x = 0 /\ a.y = 0)))
 | [], i, s, acc, r, h => by
  cases h
  exact ⟨[], by simp, rfl, by simp, fun k hk => (by cases hk)⟩
 | G :: l, i, s, acc, r, h => by
  rw [bLoop] at h
  split at h
  · cases h
  · rename_i an s' ha
    obtain ⟨na, a1, a2, a3, a4, a5⟩ := aLoop_is _ _ _ _ _ ha
    obtain ⟨new, e1, e2, e3, e5⟩ := bLoop_is l (i + 1) s' _ r h
    simp only [List.nil_append] at a1 a3 a4
    subst a1
    refine ⟨⟨G, an⟩ :: new, by rw [e1, List.append_assoc]; rfl, by rw [List.map_cons, e2], by omega, ?_⟩
    intro k hk
    rcases List.mem_cons.1 hk with rfl | hk
    · refine ⟨a2, fun hn => ⟨by omega, ?_⟩, a5⟩
      have := a4 (by omega)
      cases new with
      | nil =>
       cases l with
       | nil => cases h; exact this
       | cons q l => simp at e2
      | cons q new => exact ((e5 q (by simp)).2.1 hn).2
    · obtain ⟨q1, q2, q3⟩ := e5 k hk
      exact ⟨q1, fun hn => ⟨by have := (q2 hn).1; omega, (q2 hn).2⟩, q3⟩
theorem nth_map {α β : Type} [Inhabited α] [Inhabited β] (f : α -> β) {l : List α} {i : Nat} (h : i < l.length) : nth (l.map f) i = f (nth l i) := by
 rw [nthE h, nthE (by simpa using h), List.getElem_map]
theorem marks_right {b : List Int} {k g a s : Int} {ms : List Mark} {bs : List Base} {s' : Int} (hB : Byt b) (hk : k = 4 \/ k = 6) (hs : 0 <= s) (h : marksX b g a s = some (ms, bs, s')) : rPos k ⟨[], ms, bs⟩ g = true /\ lenOk ⟨[], ms, bs⟩ := by
 unfold marksX at h
 split at h
 · cases h
 · split at h
   · cases h
   · rename_i m s1 hset
     obtain ⟨hr, h1, h2, h3, h4⟩ := set_ris hset
     split at h
     · cases h
     · split at h
       · cases h
       · rename_i bb s2 hset2
         obtain ⟨gr, g1, g2, g3, g4⟩ := set_ris hset2
         unfold headX at h
         repeat (split at h; · cases h)
         rename_i hw _ _ _ _
         unfold endX at h
         split at h
         · cases h
         · rename_i ms' s3 hm
           split at h
           · cases h
           · rename_i bs' s4 hb
             cases h
             obtain ⟨new, e1, e2, e3, e4, e5⟩ := mLoop_is hB _ _ _ _ _ hm
             obtain ⟨nb, f1, f2, f3, f5⟩ := bLoop_is _ _ _ _ _ hb
             simp only [List.nil_append] at e1 e3 e4 f1 f3 f5
             subst e1 f1
             have hn0 : 0 < wA b (a + 6) := by omega
             have hn1 := wA_range hB (a + 6)
             obtain ⟨n, hn⟩ : ∃ n : Nat, n = (wA b (a + 6)).toNat := ⟨_, rfl⟩
             have hnw : wA b (a + 6) = (n : Int) := by omega
             rw [<- hn] at f5
             rw [hnw] at e5
             have lm : ms.length = m.length := by rw [<- e2, List.length_map]
             have lb : bs.length = bb.length := by rw [<- f2, List.length_map]
             have ea0 : an0 bs = n := by
              unfold an0
              exact (f5 _ (nth_mem (by omega))).1
             refine ⟨?_, by show 0 <= 140737488351232; omega, by show ms.length <= 140737488351232; omega, by show bs.length <= 140737488351232; omega, fun x hx => ?_⟩
             · unfold rPos
               rw [if_neg (by omega)]
               simp only
               have hc : (((((!decide (k = 4)) && (!decide (k = 6))) || decide ((([] : List Kern).length : Int) > 0)) || decide ((ms.length : Int) = 0)) || decide ((bs.length : Int) = 0)) = false := by
                rw [decide_eq_false (show ¬ (ms.length : Int) = 0 by omega), decide_eq_false (show ¬ (bs.length : Int) = 0 by omega)]
                rcases hk with rfl | rfl <;> rfl
               rw [hc, if_neg (by decide), ea0, allN_true, allN_true, Bool.true_and, Bool.true_and, decide_eq_true (by omega)]
               · intro j hj
                 rw [Bool.or_eq_false_iff]
                 obtain ⟨q1, _, q3⟩ := f5 _ (nth_mem hj)
                 constructor
                 · have hg : nth bb j = (nth bs j).g := by rw [<- f2, nth_map _ hj]
                   have hjb : j < bb.length := by omega
                   have u := gr.u _ (nth_mem hjb)
                   have lt := gr.lt _ (nth_mem hjb)
                   rw [hg] at u lt
                   unfold cB
                   rw [i64_id _ (by omega) (by omega), decide_eq_false (by omega), q1, decide_eq_true rfl, Bool.false_or, Bool.not_true, Bool.false_or, Bool.and_eq_false_iff]
                   by_cases h0 : 0 < j
                   · right
                     have := pw_nth gr.pw (i := j - 1) (j := j) (by omega) hjb
                     rw [<- f2, nth_map _ hj, nth_map _ (by omega)] at this
                     rw [pre_eq h0 (by omega)]
                     exact decide_eq_false (by omega)
                   · left
                     exact decide_eq_false (by omega)
                 · rw [Bool.not_eq_false', allN_true]
                   intro k hk
                   have := q3 _ (nth_mem (by rw [q1]; exact hk))
                   unfold cA
                   rcases this with h | ⟨h1, h2⟩
                   · rw [h]; rfl
                   · rw [h1, h2]; simp
               · intro j hj
                 have hg : nth m j = (nth ms j).g := by rw [<- e2, nth_map _ hj]
                 have hjb : j < m.length := by omega
                 have u := hr.u _ (nth_mem hjb)
                 have lt := hr.lt _ (nth_mem hjb)
                 rw [hg] at u lt
                 obtain ⟨c1, c2, c3⟩ := e5 _ (nth_mem hj)
                 unfold cM
                 rw [i64_id _ (by omega) (by omega), i64_id _ (by omega) (by omega), decide_eq_false (by omega), decide_eq_false (by omega), Bool.or_self, Bool.false_or, Bool.and_eq_false_iff]
                 by_cases h0 : 0 < j
                 · right
                   have := pw_nth hr.pw (i := j - 1) (j := j) (by omega) hjb
                   rw [<- e2, nth_map _ hj, nth_map _ (by omega)] at this
                   rw [pre_eq h0 (by omega)]
                   exact decide_eq_false (by omega)
                 · left
                   exact decide_eq_false (by omega)
             · have := (f5 x hx).1
               show x.an.length <= 140737488351232
               omega
def toP : PosX -> PosU
 | .k ks => ⟨ks, [], []⟩
 | .m ms bs => ⟨[], ms, bs⟩
def toL (x : Lk) : LkU := ⟨x.ty, x.flag, [], x.poss.map toP⟩
theorem sLoop_is {b : List Int} {g ty : Int} (hB : Byt b) (hty : ty = 2 \/ ty = 4 \/ ty = 6) : ∀ (l : List Int) (s : Int) (acc : List PosX) (r : List PosX), 0 <= s /\ s <= 65536 -> sLoop b g ty l s acc = some r ->
 ∃ new, r = acc ++ new /\ new.length = l.length /\ ∀ p ∈ new, rPos ty (toP p) g = true /\ lenOk (toP p)
 | [], s, acc, r, hs, h => by
  cases h
  exact ⟨[], by simp, rfl, fun k hk => (by cases hk)⟩
 | a :: l, s, acc, r, hs, h => by
  rw [sLoop] at h
  split at h
  · cases h
  · rename_i p s' hp
    have hh : (rPos ty (toP p) g = true /\ lenOk (toP p)) /\ 0 <= s' /\ s' <= 65536 := by
     unfold posX at hp
     split at hp
     · rename_i h2
       split at hp
       · cases hp
       · rename_i ks s2 hq
         cases hp
         rw [h2]
         exact ⟨pairs_right hB hs.1 hq, pairs_rng hs hq⟩
     · rename_i h2
       split at hp
       · cases hp
       · rename_i ms bs s2 hq
         cases hp
         exact ⟨marks_right hB (hty.resolve_left h2) hs.1 hq, marks_rng hs hq⟩
    obtain ⟨new, e1, e2, e3⟩ := sLoop_is hB hty l s' _ r hh.2 h
    refine ⟨p :: new, by rw [e1, List.append_assoc]; rfl, by rw [List.length_cons, e2, List.length_cons], ?_⟩
    intro k hk
    rcases List.mem_cons.1 hk with rfl | hk
    · exact hh.1
    · exact e3 k hk
theorem lLoop_is {b : List Int} {g : Int} (hB : Byt b) : ∀ (ts : List Tab) (acc r : List Lk), lLoop b g ts acc = some r ->
 ∃ new, r = acc ++ new /\ new.map (fun x => (x.ty, x.flag, x.poss.length)) = ts.map (fun t => (t.ty, t.flag, t.at'.length)) /\ ∀ x ∈ new, ∀ p ∈ x.poss, rPos x.ty (toP p) g = true /\ lenOk (toP p)
 | [], acc, r, h => by
  cases h
  exact ⟨[], by simp, rfl, fun k hk => (by cases hk)⟩
 | t :: ts, acc, r, h => by
  rw [lLoop] at h
  split at h
  · rename_i hty
    split at h
    · cases h
    · rename_i ps hps
      obtain ⟨np, p1, p2, p3⟩ := sLoop_is hB hty _ _ _ _ (by omega) hps
      obtain ⟨new, e1, e2, e3⟩ := lLoop_is hB ts _ r h
      simp only [List.nil_append] at p1
      subst p1
      refine ⟨⟨t.ty, t.flag, ps⟩ :: new, by rw [e1, List.append_assoc]; rfl, by rw [List.map_cons, List.map_cons, e2, p2], ?_⟩
      intro k hk
      rcases List.mem_cons.1 hk with rfl | hk
      · exact p3
      · exact e3 k hk
  · cases h
theorem flag_ok {n : Int} (h : 0 <= n /\ n <= 15) : flagF n <= 14 /\ 0 <= flagF n /\ (flagF n).tmod 2 = 0 := by
 obtain ⟨k, rfl⟩ : ∃ k : Nat, n = (k : Int) := ⟨n.toNat, by omega⟩
 have hk : k < 16 := by omega
 have : ∀ k : Fin 16, flagF ((k.val : Nat) : Int) <= 14 /\ 0 <= flagF ((k.val : Nat) : Int) /\ (flagF ((k.val : Nat) : Int)).tmod 2 = 0 := by decide
 exact this ⟨k, hk⟩
theorem look_is {b : List Int} {a : Int} {ts : List Tab} (hB : Byt b) (h : lookX b a = some ts) : ts.length <= 256 /\ ∀ t ∈ ts, 1 <= t.at'.length /\ t.at'.length <= 256 /\ t.flag <= 14 /\ 0 <= t.flag /\ t.flag.tmod 2 = 0 := by
 unfold lookX at h
 split at h
 · cases h
 · split at h
   · cases h
   · split at h
     · rename_i h1 h2 h3
       have e := Option.some.inj h
       subst e
       rw [List.all_eq_true] at h3
       refine ⟨by rw [List.length_map, List.length_range]; omega, fun t ht => ?_⟩
       obtain ⟨i, hi, rfl⟩ := List.mem_map.1 ht
       have hok := h3 i hi
       unfold okL at hok
       rw [Bool.and_eq_true, Bool.and_eq_true, Bool.and_eq_true, Bool.not_eq_true', Bool.not_eq_true', Bool.not_eq_true', Bool.or_eq_false_iff, decide_eq_false_iff_not, decide_eq_false_iff_not, decide_eq_true_iff] at hok
       obtain ⟨_, ⟨k1, k2⟩, _, k4⟩ := hok
       have hf := w2_range (hB.drop (lkT b a i).toNat) 2
       refine ⟨by unfold lkAt; rw [List.length_map, List.length_range]; omega, by unfold lkAt; rw [List.length_map, List.length_range]; omega, ?_⟩
       exact flag_ok ⟨hf.1, k4⟩
     · cases h
theorem feat_is {b : List Int} {a L : Int} {fs : List Feat} (hB : Byt b) (h : featX b a L = some fs) : fs.length <= 512 /\ ∀ f ∈ fs, f.ks.Pairwise (· < ·) /\ f.ks.length <= 65536 /\ ∀ x ∈ f.ks, 0 <= x /\ x < L := by
 unfold featX at h
 split at h
 · cases h
 · split at h
   · cases h
   · split at h
     · rename_i h1 h2 h3
       have e := Option.some.inj h
       subst e
       rw [List.all_eq_true] at h3
       refine ⟨by rw [List.length_map, List.length_range]; omega, fun f hf => ?_⟩
       obtain ⟨i, hi, rfl⟩ := List.mem_map.1 hf
       have hok := h3 i hi
       unfold okT at hok
       rw [Bool.and_eq_true, List.all_eq_true] at hok
       have hrow : ∀ x ∈ rowW b (fT b a i), (0 <= x /\ x <= 65535) /\ x < L := fun x hx => by
        obtain ⟨j, hj, rfl⟩ := List.getElem_of_mem hx
        have := rowW_range hB (fT b a i) j hj
        rw [nthE hj] at this
        exact ⟨this, of_decide_eq_true (hok.2 _ hx)⟩
       have hsel := ks_sel L _ hrow
       refine ⟨?_, ?_, fun x hx => ?_⟩
       · show (ksF (rowW b (fT b a i))).Pairwise (· < ·)
         rw [hsel]; exact sel_strict _ _
       · show (ksF (rowW b (fT b a i))).length <= 65536
         rw [hsel]
         have := sel_len (rowW b (fT b a i)) (selV (rowW b (fT b a i)) L)
         have h2 : selV (rowW b (fT b a i)) L <= 65536 := by
          unfold selV
          split <;> omega
         omega
       · have hx : x ∈ ksF (rowW b (fT b a i)) := hx
         rw [hsel, sel_mem] at hx
         have := hrow x hx.2
         exact ⟨this.1.1, this.2⟩
     · cases h
theorem feats_right {fs : List Feat} {L : Int} (h0 : fs.length <= 512) (h : ∀ f ∈ fs, f.ks.Pairwise (· < ·) /\ f.ks.length <= 65536 /\ ∀ x ∈ f.ks, 0 <= x /\ x < L) : rFeats fs L = true := by
 unfold rFeats
 rw [decide_eq_true (by omega), Bool.true_and, allN_true]
 intro i hi
 obtain ⟨h1, h2, h3⟩ := h _ (nth_mem hi)
 rw [Bool.not_eq_false', allN_true]
 intro k hk
 have := h3 _ (nth_mem hk)
 unfold cF
 rw [decide_eq_false (by omega), decide_eq_false (by omega), Bool.or_self, Bool.false_or, Bool.and_eq_false_iff]
 by_cases h0 : 0 < k
 · right
   have := pw_nth h1 (i := k - 1) (j := k) (by omega) hk
   rw [pre_eq h0 (by omega)]
   exact decide_eq_false (by omega)
 · left
   exact decide_eq_false (by omega)
theorem parse_right {b : List Int} {g : Int} {ls : List Lk} {fs : List Feat} (hB : Byt b) (h : parseX b g = some (ls, fs)) : rLooks (ls.map toL) g = true /\ (∀ l ∈ ls.map toL, ∀ p ∈ l.poss, lenOk p) /\ rFeats fs (ls.length : Int) = true /\ (∀ f ∈ fs, f.ks.length <= 1000000) /\ ls.length <= 256 /\ fs.length <= 512 := by
 unfold parseX at h
 repeat (split at h; · cases h)
 rename_i ts hts _ fs' hfs
 unfold tailX at h
 split at h
 · cases h
 · rename_i ls' hls
   cases h
   obtain ⟨t1, t2⟩ := look_is hB hts
   obtain ⟨f1, f2⟩ := feat_is hB hfs
   obtain ⟨new, e1, e2, e3⟩ := lLoop_is hB _ _ _ hls
   simp only [List.nil_append] at e1
   subst e1
   have el : ls.length = ts.length := by
    have := congrArg List.length e2
    rwa [List.length_map, List.length_map] at this
   have hx : ∀ x ∈ ls, 1 <= x.poss.length /\ x.poss.length <= 256 /\ x.flag <= 14 /\ 0 <= x.flag /\ x.flag.tmod 2 = 0 := by
    intro x hx
    have : (x.ty, x.flag, x.poss.length) ∈ ts.map (fun t => (t.ty, t.flag, t.at'.length)) := by
     rw [<- e2]; exact List.mem_map.2 ⟨x, hx, rfl⟩
    obtain ⟨t, ht, he⟩ := List.mem_map.1 this
    have h1 := t2 t ht
    simp only [Prod.mk.injEq] at he
    rw [<- he.2.1, <- he.2.2]
    exact h1
   refine ⟨?_, ?_, ?_, fun f hf => by have := (f2 f hf).2.1; omega, by omega, f1⟩
   · unfold rLooks
     rw [List.length_map, decide_eq_true (by omega), Bool.true_and, allN_true]
     intro i hi
     rw [nth_map _ hi, Bool.or_eq_false_iff]
     have hm := nth_mem hi
     obtain ⟨p1, p2, p3, p4, p5⟩ := hx _ hm
     constructor
     · unfold cL toL
       simp only [List.length_nil, List.length_map]
       rw [p5, decide_eq_false (show ¬ (nth ls i).flag > 14 by omega), decide_eq_false (show ¬ ((nth ls i).poss.length : Int) = 0 by omega), decide_eq_false (show ¬ ((nth ls i).poss.length : Int) > 256 by omega)]
       rfl
     · rw [Bool.not_eq_false', allN_true]
       intro k hk
       have hk : k < (nth ls i).poss.length := by simpa [toL] using hk
       show (!rPos (nth ls i).ty (nth ((nth ls i).poss.map toP) k) g) = false
       rw [nth_map _ hk, (e3 _ hm _ (nth_mem hk)).1]; rfl
   · intro l hl p hp
     obtain ⟨x, hx, rfl⟩ := List.mem_map.1 hl
     obtain ⟨q, hq, rfl⟩ := List.mem_map.1 hp
     exact (e3 _ hx _ hq).2
   · rw [el]
     exact feats_right f1 f2
end Go.Proofs.YtjflgkadagkllaaGreat
