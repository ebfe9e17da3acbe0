/- What gsub.Parse reads is such as is promised: ligatures, chains. -/
import Derived.Test.YtalploampmdemaaM14
set_option maxRecDepth 100000
set_option linter.unusedVariables false
namespace Go.Proofs.Ytalploampmdemaa
open Go Go.Eng Go.RowKit

structure LigOk (x : Lig) (g : Int) : Prop where
  l0 : 0 < x.p.length
  l1 : x.p.length ≤ 65535
  gl : ∀ y ∈ x.p, Gl y g
  t : Gl x.t g
theorem lgI_is {b : List Int} (hB : Byt b) {g p G : Int} (hG : Gl G g) : ∀ (m k : Nat) (s : Int) (acc : List Lig) (r : List Lig × Int), lgI b g p G m k s acc = some r →
    ∃ new, r.1 = acc ++ new ∧ new.length = m ∧ s + (new.length : Int) ≤ r.2 ∧ ∀ x ∈ new, nth x.p 0 = G ∧ LigOk x g
  | 0, _, s, acc, r, h => by cases h; exact ⟨[], by simp, rfl, by simp, fun x hx => by cases hx⟩
  | m + 1, k, s, acc, r, h => by
    rw [lgI] at h
    split at h
    · cases h
    · split at h
      · cases h
      · rename_i x hx
        split at h
        · cases h
        · split at h
          · cases h
          · split at h
            · cases h
            · rename_i h8
              split at h
              · cases h
              · rename_i l s' hr
                have hw := wA_range hB (p + wA b (p + 2 + 2 * (k : Int)) + 2)
                obtain ⟨h3, h4, h5⟩ := row_rng _ _ _ _ _ hr
                have hgl := rLoop_is hB _ _ _ _ _ hr (fun x hx => by cases hx)
                simp only [List.length_nil, Nat.zero_add] at h3 h4 h5 hgl
                obtain ⟨new, e1, e2, e3, e4⟩ := lgI_is hB hG m _ _ _ r h
                refine ⟨⟨G :: l, x⟩ :: new, by rw [e1, List.append_assoc]; rfl, by rw [List.length_cons, e2], by rw [List.length_cons]; omega, fun y hy => ?_⟩
                rcases List.mem_cons.1 hy with rfl | hy
                · refine ⟨rfl, by simp, by rw [List.length_cons]; omega, fun z hz => ?_, (gAt_is hB hx).1⟩
                  rcases List.mem_cons.1 hz with rfl | hz
                  · exact hG
                  · exact hgl z hz
                · exact e4 y hy
theorem lgO_is {b : List Int} (hB : Byt b) {g : Int} : ∀ (l ps : List Int) (s : Int) (acc : List Lig) (r : List Lig × Int), ps.length = l.length → l.Pairwise (· < ·) → (∀ x ∈ l, Gl x g) → lgO b g l ps s acc = some r →
    ∃ new, r.1 = acc ++ new ∧ new.Pairwise (fun x y => nth x.p 0 ≤ nth y.p 0) ∧ (0 < l.length → 0 < new.length) ∧ s + (new.length : Int) ≤ r.2 ∧ ∀ x ∈ new, nth x.p 0 ∈ l ∧ LigOk x g
  | [], _, s, acc, r, _, _, _, h => by cases h; exact ⟨[], by simp, List.Pairwise.nil, fun h => h, by simp, fun x hx => by cases hx⟩
  | _ :: _, [], s, acc, r, hl, _, _, h => by simp at hl
  | G :: l, p :: ps, s, acc, r, hl, hp, hg, h => by
    rw [lgO] at h
    split at h
    · cases h
    · split at h
      · cases h
      · rename_i h2
        have h2 := Decidable.not_not.1 h2
        split at h
        · cases h
        · rename_i acc' s' hh
          obtain ⟨n1, a1, a2, a3, a4⟩ := lgI_is hB (hg G (by simp)) _ _ _ _ _ hh
          obtain ⟨n2, b1, b2, b3, b4, b5⟩ := lgO_is hB l ps _ _ r (by simpa using hl) (List.pairwise_cons.1 hp).2 (fun x hx => hg x (by simp [hx])) h
          simp only at a1 a3
          refine ⟨n1 ++ n2, by rw [b1, a1, List.append_assoc], ?_, fun _ => by rw [List.length_append]; omega, by rw [List.length_append]; omega, fun x hx => ?_⟩
          · rw [List.pairwise_append]
            refine ⟨?_, b2, fun x hx y hy => ?_⟩
            · refine List.pairwise_iff_forall_sublist.2 ?_
              intro x y hxy
              have hx := hxy.subset (show x ∈ [x, y] by simp)
              have hy := hxy.subset (show y ∈ [x, y] by simp)
              rw [(a4 x hx).1, (a4 y hy).1]
              exact Int.le_refl _
            · rw [(a4 x hx).1]
              have := (List.pairwise_cons.1 hp).1 _ (b5 y hy).1
              omega
          · rcases List.mem_append.1 hx with hx | hx
            · exact ⟨by rw [(a4 x hx).1]; simp, (a4 x hx).2⟩
            · exact ⟨List.mem_cons_of_mem _ (b5 x hx).1, (b5 x hx).2⟩
theorem li_right {ls : List Lig} {g : Int} (hp : ls.Pairwise (fun x y => nth x.p 0 ≤ nth y.p 0)) (hk : ∀ x ∈ ls, LigOk x g) (h0 : 0 < ls.length) (h1 : ls.length ≤ 65536) : (allN (cLi ls g) ls.length && decide ((ls.length : Int) > 0)) = true := by
  rw [allN_true, Bool.true_and]
  · exact decide_eq_true (by omega)
  intro j hj
  obtain ⟨k1, k2, k3, k4⟩ := hk _ (nth_mem hj)
  obtain ⟨t1, t2, t3⟩ := k4
  unfold cLi
  rw [decide_eq_false (show ¬ ((nth ls j).p.length : Int) = 0 by omega), below_right k3, i64_id _ (by omega) (by omega), decide_eq_false (by omega), Bool.or_eq_false_iff]
  refine ⟨rfl, ?_⟩
  rw [Bool.and_eq_false_iff]
  by_cases h0 : 0 < j
  · right
    have := pw_nth hp (i := j - 1) (j := j) (by omega) hj
    rw [pre_eq h0 (by omega)]
    exact decide_eq_false (by omega)
  · left
    exact decide_eq_false (by omega)
/-- a set of glyphs -/
structure SetOk (x : List Int) (g : Int) : Prop where
  r : Ris x g
  l0 : 0 < x.length
  l1 : x.length ≤ 65535
theorem ri_right {x : List Int} {g : Int} (h : SetOk x g) : rRi x g = true := by
  unfold rRi
  refine allN_true fun j hj => ?_
  have u := h.r.u _ (nth_mem hj)
  have lt := h.r.lt _ (nth_mem hj)
  unfold cRi
  rw [i64_id _ (by omega) (by omega), decide_eq_false (by omega), up_false h.r hj (by have := h.l1; omega)]; rfl
theorem se_right {xs : List (List Int)} {g : Int} (h : ∀ x ∈ xs, SetOk x g) : rSe xs g = true := by
  unfold rSe
  refine allN_true fun j hj => ?_
  have hx := h _ (nth_mem hj)
  have := hx.l0
  unfold cSe
  rw [decide_eq_false (by omega), ri_right hx]; rfl
theorem stLoop_is {b : List Int} {g a f : Int} : ∀ (m i : Nat) (s : Int) (acc : List (List Int)) (r : List (List Int) × Int), stLoop b g a f m i s acc = some r → (∀ x ∈ acc, SetOk x g) → ∀ x ∈ r.1, SetOk x g
  | 0, _, s, acc, r, h, ha => by cases h; exact ha
  | m + 1, i, s, acc, r, h, ha => by
    rw [stLoop] at h
    split at h
    · cases h
    · rename_i l s' hs
      obtain ⟨h1, _, _, h4, h5⟩ := set2_ris hs
      exact stLoop_is m _ _ _ r h (fun y hy => by
        rcases List.mem_append.1 hy with hy | hy
        · exact ha y hy
        · rw [List.mem_singleton] at hy; subst hy; exact ⟨h1, h4, h5⟩)
theorem setsX_is {b : List Int} {g a f s : Int} {l : List (List Int)} {t s' : Int} (h : setsX b g a f s = some (l, t, s')) : ∀ x ∈ l, SetOk x g := by
  unfold setsX at h
  split at h
  · cases h
  · split at h
    · cases h
    · rename_i l0 s0 hl
      cases h
      exact stLoop_is _ _ _ _ _ hl (fun x hx => by cases hx)
theorem rcLoop_is {b : List Int} (hB : Byt b) {L t : Int} {n : Nat} : ∀ (m i : Nat) (acc r : List Rec), rcLoop b L n t m i acc = some r → (∀ x ∈ acc, (0 ≤ x.a ∧ x.a < n) ∧ 0 ≤ x.l ∧ x.l < L) → r.length = acc.length + m ∧ ∀ x ∈ r, (0 ≤ x.a ∧ x.a < n) ∧ 0 ≤ x.l ∧ x.l < L
  | 0, _, acc, r, h, ha => by cases h; exact ⟨rfl, ha⟩
  | m + 1, i, acc, r, h, ha => by
    rw [rcLoop] at h
    split at h
    · cases h
    · split at h
      · cases h
      · split at h
        · cases h
        · rename_i hh
          have hh := Decidable.not_not.1 hh
          have w1 := wA_range hB (t + 2 + 4 * (i : Int))
          have w2 := wA_range hB (t + 4 + 4 * (i : Int))
          obtain ⟨h1, h2⟩ := rcLoop_is hB m _ _ r h (fun y hy => by
            rcases List.mem_append.1 hy with hy | hy
            · exact ha y hy
            · rw [List.mem_singleton] at hy; subst hy; exact ⟨⟨w1.1, hh.1⟩, w2.1, hh.2⟩)
          rw [List.length_append] at h1
          exact ⟨by rw [h1]; simp only [List.length_cons, List.length_nil]; omega, h2⟩
theorem re_right {rs : List Rec} {n : Nat} {L : Int} (h : ∀ x ∈ rs, (0 ≤ x.a ∧ x.a < n) ∧ 0 ≤ x.l ∧ x.l < L) : allN (cRe rs n L) rs.length = true := by
  refine allN_true fun j hj => ?_
  obtain ⟨h1, h2⟩ := h _ (nth_mem hj)
  unfold cRe
  rw [decide_eq_false (by omega), decide_eq_false (by omega), decide_eq_false (by omega), decide_eq_false (by omega)]; rfl

def toS : SubX → SubU
  | .one ps => ⟨ps, [], [], [], [], [], []⟩
  | .many ms => ⟨[], ms, [], [], [], [], []⟩
  | .lig ls => ⟨[], [], ls, [], [], [], []⟩
  | .ch c => ⟨[], [], [], c.bk, c.inn, c.ah, c.rs⟩
theorem one_c0 {k : Int} (hk : k = 1 ∨ k = 3) (ps : List Pair) : c0 k (toS (.one ps)) = false := by
  rcases hk with rfl | rfl <;> (unfold c0 toS; simp; decide)
theorem many_c0 (ms : List Many) : c0 2 (toS (.many ms)) = false := by unfold c0 toS; simp; decide
theorem lig_c0 (ls : List Lig) : c0 4 (toS (.lig ls)) = false := by unfold c0 toS; simp; decide
theorem ch_c0 (c : Chn) : c0 6 (toS (.ch c)) = false := by unfold c0 toS; simp
/-- a subtable read is right -/
theorem sub_right {b : List Int} (hB : Byt b) {g L ty a s s' : Int} {p : SubX} (hty : known ty) (ha : 0 ≤ a) (hs : 0 ≤ s ∧ s ≤ 65536) (h : subX b g L ty a s = some (p, s')) : (rSub ty (toS p) g L = true ∧ LenS (toS p)) ∧ 0 ≤ s' ∧ s' ≤ 65536 := by
  unfold subX at h
  split at h
  · rename_i hk
    subst hk
    split at h
    · cases h
    · rename_i ps s2 hp
      cases h
      refine ⟨?_, single_rng hs hp⟩
      unfold singleX at hp
      split at hp
      · cases hp
      · rename_i l s1 hset
        obtain ⟨hr, _, _, l0, l1⟩ := set2_ris hset
        unfold singleT at hp
        repeat (split at hp; · cases hp)
        obtain ⟨e1, e2⟩ := siLoop_is hB _ _ _ _ _ hp (fun x hx => by cases hx)
        obtain ⟨q1, q2⟩ := pa_right (l := l) (by simpa using e1) hr e2 l0 l1
        refine ⟨?_, ⟨by show ps.length ≤ _; simp only at q2; omega, by simp [toS], by simp [toS], by simp [toS], by simp [toS], by simp [toS], by simp [toS], by simp [toS], by simp [toS], by simp [toS], by simp [toS], by simp [toS]⟩⟩
        unfold rSub
        rw [if_neg (by rw [one_c0 (.inl rfl)]; decide), if_pos (.inl rfl)]
        exact q1
  · split at h
    · rename_i hk
      subst hk
      split at h
      · cases h
      · rename_i ps s2 hp
        cases h
        refine ⟨?_, mu_rng hB ha hs hp⟩
        unfold muX at hp
        split at hp
        · cases hp
        · rename_i l pl s1 hset
          obtain ⟨hr, l2, l0, l1⟩ := rows_ris hB ha hset
          obtain ⟨_, _, _, hs1, _⟩ := rows_len hB ha hset
          obtain ⟨e1, e2⟩ := muLoop_is hB _ _ _ _ _ l2 hs1 hp (fun x hx => by cases hx)
          obtain ⟨q1, q2⟩ := ma_right (l := l) (by simpa using e1) hr e2 l0 l1
          refine ⟨?_, ⟨by simp [toS], by show ps.length ≤ _; simp only at q2; omega, by simp [toS], by simp [toS], by simp [toS], by simp [toS], by simp [toS], fun x hx => by have := (e2 x hx).2.1; omega, by simp [toS], by simp [toS], by simp [toS], by simp [toS]⟩⟩
          unfold rSub
          rw [if_neg (by rw [many_c0]; decide), if_neg (by decide), if_pos rfl]
          exact q1
    · split at h
      · rename_i hk
        subst hk
        split at h
        · cases h
        · rename_i ps s2 hp
          cases h
          refine ⟨?_, al_rng hB ha hs hp⟩
          unfold alX at hp
          split at hp
          · cases hp
          · rename_i l pl s1 hset
            obtain ⟨hr, l2, l0, l1⟩ := rows_ris hB ha hset
            obtain ⟨_, _, _, hs1, _⟩ := rows_len hB ha hset
            obtain ⟨e1, e2⟩ := alLoop_is hB _ _ _ _ _ l2 hs1 hp (fun x hx => by cases hx)
            obtain ⟨q1, q2⟩ := pa_right (l := l) (by simpa using e1) hr e2 l0 l1
            refine ⟨?_, ⟨by show ps.length ≤ _; simp only at q2; omega, by simp [toS], by simp [toS], by simp [toS], by simp [toS], by simp [toS], by simp [toS], by simp [toS], by simp [toS], by simp [toS], by simp [toS], by simp [toS]⟩⟩
            unfold rSub
            rw [if_neg (by rw [one_c0 (.inr rfl)]; decide), if_pos (.inr rfl)]
            exact q1
      · split at h
        · rename_i hk
          subst hk
          split at h
          · cases h
          · rename_i ps s2 hp
            cases h
            refine ⟨?_, lig_rng hB ha hs hp⟩
            have hrng := lig_rng hB ha hs hp
            unfold ligX at hp
            split at hp
            · cases hp
            · rename_i l pl s1 hset
              obtain ⟨hr, l2, l0, l1⟩ := rows_ris hB ha hset
              obtain ⟨_, _, hs0, hs1, _⟩ := rows_len hB ha hset
              obtain ⟨new, e1, e2, e3, e4, e5⟩ := lgO_is hB _ _ _ _ _ l2 hr.pw (fun x hx => ⟨(hr.u x hx).1, (hr.u x hx).2, hr.lt x hx⟩) hp
              simp only [List.nil_append] at e1 e4
              subst e1
              have hlen : ps.length ≤ 65536 := by omega
              refine ⟨?_, ⟨by simp [toS], by simp [toS], by show ps.length ≤ _; omega, by simp [toS], by simp [toS], by simp [toS], by simp [toS], by simp [toS], fun x hx => by have := (e5 x hx).2.l1; omega, by simp [toS], by simp [toS], by simp [toS]⟩⟩
              unfold rSub
              rw [if_neg (by rw [lig_c0]; decide), if_neg (by decide), if_neg (by decide), if_pos rfl]
              exact li_right e2 (fun x hx => (e5 x hx).2) (e3 l0) hlen
        · have hk : ty = 6 := by
            unfold known at hty
            omega
          subst hk
          split at h
          · cases h
          · rename_i c s2 hp
            cases h
            refine ⟨?_, chain_rng hB hs hp⟩
            unfold chainX at hp
            repeat (split at hp; · cases hp)
            rename_i bk t1 s1 h1 _ inn t2 s2 h2 _ ah t3 s3 h3
            obtain ⟨n1, _, a1, a2, _⟩ := setsX_len hB hs h1
            obtain ⟨n2, _, b1, b2, _⟩ := setsX_len hB ⟨a1, a2⟩ h2
            obtain ⟨n3, _, c1, c2, _⟩ := setsX_len hB ⟨b1, b2⟩ h3
            have g1 := setsX_is h1
            have g2 := setsX_is h2
            have g3 := setsX_is h3
            unfold chT at hp
            split at hp
            · cases hp
            · rename_i hin
              have hin := Decidable.not_not.1 hin
              repeat (split at hp; · cases hp)
              rename_i rs hrs
              cases hp
              have hw := wA_range hB t3
              obtain ⟨q1, q2⟩ := rcLoop_is hB _ _ _ _ hrs (fun x hx => by cases hx)
              have q1 : rs.length = 0 + (wA b t3).toNat := q1
              refine ⟨?_, ⟨by simp [toS], by simp [toS], by simp [toS], by show bk.length ≤ _; omega, by show inn.length ≤ _; omega, by show ah.length ≤ _; omega, by show rs.length ≤ _; omega, by simp [toS], by simp [toS], fun x hx => by have := (g1 x hx).l1; omega, fun x hx => by have := (g2 x hx).l1; omega, fun x hx => by have := (g3 x hx).l1; omega⟩⟩
              unfold rSub
              rw [if_neg (by rw [ch_c0]; decide), if_neg (by decide), if_neg (by decide), if_neg (by decide), if_pos rfl]
              show (allN (cRe rs inn.length L) rs.length && (((decide ((inn.length : Int) > 0) && rSe bk g) && rSe inn g) && rSe ah g)) = true
              rw [re_right q2, se_right g1, se_right g2, se_right g3, decide_eq_true hin]; rfl
end Go.Proofs.Ytalploampmdemaa
