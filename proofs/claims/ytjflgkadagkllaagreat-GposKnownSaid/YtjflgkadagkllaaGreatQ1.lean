/- Tables made of words, and how they are read (plain Lean). -/
import Derived.Test.YtjflgkadagkllaaGreatN13
set_option maxRecDepth 100000
set_option linter.unusedVariables false
namespace Go.Proofs.YtjflgkadagkllaaGreat
open Go Go.Eng Go.RowKit
theorem hiB_val {n : Int} (h : 0 <= n /\ n <= 65535) : hiB n = n / 256 := by
 unfold hiB
 have : shrV IntKind.i64 n 8 = n / 256 := by
  obtain ⟨k, rfl⟩ : ∃ k : Nat, n = (k : Int) := ⟨n.toNat, by omega⟩
  unfold shrV
  have e : min 8 IntKind.i64.bits = 8 := by decide
  simp [e]
  try rw [Int.fdiv_eq_ediv_of_nonneg _ (by decide)]
  try rfl
 rw [this, IntKind.wrap_u8]
 omega
theorem loB_val {n : Int} (h : 0 <= n /\ n <= 65535) : loB n = n % 256 := by
 unfold loB
 rw [IntKind.wrap_u8]
theorem wsB_app (a b : List Int) : wsB (a ++ b) = wsB a ++ wsB b := by unfold wsB; rw [List.flatMap_append]
theorem wsB_cons (x : Int) (l : List Int) : wsB (x :: l) = hiB x :: loB x :: wsB l := rfl
theorem wsB_byt (W : List Int) : Byt (wsB W) := by
 refine Byt.of fun x hx => ?_
 unfold wsB at hx
 obtain ⟨n, _, hn⟩ := List.mem_flatMap.1 hx
 have h : x = hiB n \/ x = loB n := by simpa using hn
 rcases h with rfl | rfl
 · unfold hiB; rw [IntKind.wrap_u8]; omega
 · unfold loB; rw [IntKind.wrap_u8]; omega
theorem wsB_nth : ∀ (W : List Int) (k : Nat), k < W.length -> nth (wsB W) (2 * k) = hiB (nth W k) /\ nth (wsB W) (2 * k + 1) = loB (nth W k)
 | [], k, h => absurd h (Nat.not_lt_zero _)
 | x :: l, 0, _ => ⟨rfl, rfl⟩
 | x :: l, k + 1, h => by
  have h1 := wsB_nth l k (by simpa using h)
  rw [wsB_cons]
  exact h1
theorem wA_at {W : List Int} {k : Nat} (h : k < W.length) (hr : 0 <= nth W k /\ nth W k <= 65535) : wA (wsB W) (2 * (k : Int)) = nth W k := by
 unfold wA w2
 have e : (2 * (k : Int)).toNat = 2 * k := by omega
 rw [e, nth_drop, nth_drop]
 obtain ⟨h1, h2⟩ := wsB_nth W k h
 rw [show 2 * k + 0 = 2 * k from rfl, show 2 * k + (0 + 1) = 2 * k + 1 from rfl, h1, h2, hiB_val hr, loB_val hr]
 omega
theorem out_at {W : List Int} {k n : Nat} (h : k + n <= W.length) : outR (wsB W) (2 * (k : Int)) (2 * (n : Int)) = false := by
 rw [outR_iff, wsB_len]
 omega
theorem w2_dropI {b : List Int} {a : Int} {p : Nat} (h : 0 <= a) : w2 (b.drop a.toNat) p = wA b (a + (p : Int)) := by
 unfold wA w2
 rw [nth_drop, nth_drop, nth_drop, nth_drop]
 have e : (a + (p : Int)).toNat = a.toNat + p := by omega
 rw [e]; rfl
def At (W : List Int) (o : Nat) (P : List Int) : Prop := ∃ t, W.drop o = P ++ t
theorem At.app {W : List Int} {o : Nat} {P Q : List Int} (h : At W o (P ++ Q)) : At W o P /\ At W (o + P.length) Q := by
 obtain ⟨t, ht⟩ := h
 refine ⟨⟨Q ++ t, by rw [ht, List.append_assoc]⟩, ⟨t, ?_⟩⟩
 rw [<- List.drop_drop, ht, List.append_assoc, List.drop_left]
theorem At.l {W : List Int} {o : Nat} {P Q : List Int} (h : At W o (P ++ Q)) : At W o P := h.app.1
theorem At.r {W : List Int} {o : Nat} {P Q : List Int} {k : Nat} (h : At W o (P ++ Q)) (hk : k = o + P.length) : At W k Q := hk ▸ h.app.2
theorem At.self (W : List Int) : At W 0 W := ⟨[], by simp⟩
theorem At.len {W : List Int} {o : Nat} {P : List Int} (h : At W o P) (hP : 0 < P.length) : o + P.length <= W.length := by
 obtain ⟨t, ht⟩ := h
 have := congrArg List.length ht
 rw [List.length_drop, List.length_append] at this
 omega
theorem At.nth {W : List Int} {o : Nat} {P : List Int} (h : At W o P) {i : Nat} (hi : i < P.length) : Go.Eng.nth W (o + i) = Go.Eng.nth P i := by
 obtain ⟨t, ht⟩ := h
 rw [<- nth_drop, ht]
 unfold Go.Eng.nth
 rw [List.getD_eq_getElem?_getD, List.getD_eq_getElem?_getD, List.getElem?_append_left hi]
def U16 (P : List Int) : Prop := ∀ x ∈ P, 0 <= x /\ x <= 65535
theorem U16.nth {P : List Int} (h : U16 P) {i : Nat} (hi : i < P.length) : 0 <= Go.Eng.nth P i /\ Go.Eng.nth P i <= 65535 := h _ (nth_mem hi)
theorem At.read {W : List Int} {o : Nat} {P : List Int} (h : At W o P) {i : Nat} (hi : i < P.length) (hr : 0 <= Go.Eng.nth P i /\ Go.Eng.nth P i <= 65535) {a : Int} (ha : a = 2 * ((o + i : Nat) : Int)) :
 outR (wsB W) a 2 = false /\ wA (wsB W) a = Go.Eng.nth P i := by
 subst ha
 have hl := h.len (by omega)
 refine ⟨?_, ?_⟩
 · have := out_at (W := W) (k := o + i) (n := 1) (by omega)
   exact this
 · rw [wA_at (by omega) (by rw [h.nth hi]; exact hr), h.nth hi]
theorem At.flat {W : List Int} {o : Nat} : ∀ {ps : List (List Int)} {i : Nat}, At W o ps.flatten -> i < ps.length -> At W (o + (ps.take i).flatten.length) (Go.Eng.nth ps i)
 | [], i, _, hi => absurd hi (Nat.not_lt_zero _)
 | p :: r, 0, h, _ => (show At W o (p ++ r.flatten) from h).l
 | p :: r, i + 1, h, hi => by
  have h1 := At.flat (ps := r) (i := i) ((show At W o (p ++ r.flatten) from h).r rfl) (by simpa using hi)
  have e : o + ((p :: r).take (i + 1)).flatten.length = o + p.length + (r.take i).flatten.length := by
   rw [List.take_succ_cons, List.flatten_cons, List.length_append]; omega
  rw [e]
  exact h1
def offs : Int -> List (List Int) -> List Int
 | _, [] => []
 | a, p :: r => a :: offs (a + 2 * (p.length : Int)) r
theorem offs_len : ∀ (a : Int) (ps : List (List Int)), (offs a ps).length = ps.length
 | _, [] => rfl
 | a, p :: r => by rw [offs, List.length_cons, List.length_cons, offs_len]
theorem offs_nth : ∀ (a : Int) (ps : List (List Int)) (i : Nat), i < ps.length -> nth (offs a ps) i = a + 2 * ((ps.take i).flatten.length : Int)
 | _, [], i, h => absurd h (Nat.not_lt_zero _)
 | a, p :: r, 0, _ => by simp [offs, nth]
 | a, p :: r, i + 1, h => by
  have h1 := offs_nth (a + 2 * (p.length : Int)) r i (by simpa using h)
  have e : nth (offs a (p :: r)) (i + 1) = nth (offs (a + 2 * (p.length : Int)) r) i := rfl
  rw [e, h1, List.take_succ_cons, List.flatten_cons, List.length_append]
  push_cast
  omega
theorem take_flat_le (ps : List (List Int)) (i : Nat) : (ps.take i).flatten.length <= ps.flatten.length := by
 have : ps.flatten = (ps.take i).flatten ++ (ps.drop i).flatten := by rw [<- List.flatten_append, List.take_append_drop]
 rw [this, List.length_append]
 omega
theorem nth_flat_le : ∀ (ps : List (List Int)) (i : Nat), i < ps.length -> (ps.take i).flatten.length + (nth ps i).length <= ps.flatten.length
 | [], i, h => absurd h (Nat.not_lt_zero _)
 | p :: r, 0, h => by
  rw [List.flatten_cons, List.length_append]
  show 0 + p.length <= _
  omega
 | p :: r, i + 1, h => by
  have h1 := nth_flat_le r i (by simpa using h)
  rw [List.take_succ_cons, List.flatten_cons, List.flatten_cons, List.length_append, List.length_append]
  show p.length + _ + (nth r i).length <= _
  omega
theorem offs_app : ∀ (a : Int) (ps : List (List Int)) (q : List Int), offs a (ps ++ [q]) = offs a ps ++ [a + 2 * (ps.flatten.length : Int)]
 | a, [], q => by simp [offs]
 | a, p :: r, q => by
  rw [List.cons_append, offs, offs_app, offs, List.cons_append, List.flatten_cons, List.length_append]
  push_cast
  rw [show a + 2 * (p.length : Int) + 2 * (r.flatten.length : Int) = a + 2 * ((p.length : Int) + (r.flatten.length : Int)) from by omega]
def covW (l : List Int) : List Int := 1 :: (l.length : Int) :: l
theorem covW_len (l : List Int) : (covW l).length = l.length + 2 := rfl
theorem nth_extO {l l' : List Int} (h : l.length = l'.length) (hn : ∀ i, i < l.length -> nth l i = nth l' i) : l = l' := by
 refine List.ext_getElem h fun i h1 h2 => ?_
 rw [<- nthE h1, <- nthE h2]
 exact hn i h1
theorem cov_read {W : List Int} {o : Nat} {l : List Int} {g a : Int} (h : At W o (covW l)) (hl : 0 < l.length) (hl2 : l.length <= 65535) (hu : U16 l) (hg : ∀ x ∈ l, x < g) (hr : ∀ i, 0 < i -> i < l.length -> nth l (i - 1) < nth l i) (ha : a = 2 * (o : Int)) : covX (wsB W) a g = some l := by
 subst ha
 have hlen := h.len (by rw [covW_len]; omega)
 rw [covW_len] at hlen
 have hB := wsB_byt W
 have h0 := h.read (i := 0) (by rw [covW_len]; omega) ⟨by show (0 : Int) <= 1; omega, by show (1 : Int) <= 65535; omega⟩ rfl
 have h1 := h.read (i := 1) (by rw [covW_len]; omega) ⟨by show (0 : Int) <= (l.length : Int); omega, by show (l.length : Int) <= 65535; omega⟩ rfl
 have e0 : wd ((wsB W).drop (2 * (o : Int)).toNat) 0 = 1 := by
  rw [wd_w2 (hB.drop _)]
  exact h0.2
 have e1 : wd ((wsB W).drop (2 * (o : Int)).toNat) 2 = (l.length : Int) := by
  rw [wd_w2 (hB.drop _), w2_dropI (by omega)]
  have := h1.2
  rw [show 2 * (o : Int) + ((2 : Nat) : Int) = 2 * ((o + 1 : Nat) : Int) from by omega]
  exact this
 have erow : rowO ((wsB W).drop (2 * (o : Int)).toNat) 4 l.length = l := by
  refine nth_extO (rowO_len _ _ _) fun i hi => ?_
  rw [rowO_len] at hi
  rw [rowO_nth _ _ _ _ hi, wo_w2 (hB.drop _), w2_dropI (by omega)]
  have hn : nth (covW l) (i + 2) = nth l i := rfl
  have := (h.read (i := i + 2) (by rw [covW_len]; omega) (by rw [hn]; exact hu.nth hi) rfl).2
  rw [show 2 * (o : Int) + ((4 + 2 * i : Nat) : Int) = 2 * ((o + (i + 2) : Nat) : Int) from by omega, this, hn]
 unfold covX
 rw [show outR (wsB W) (2 * (o : Int)) 4 = false from out_at (W := W) (k := o) (n := 2) (by omega), if_neg (by decide), if_pos e0, e1]
 rw [show outR (wsB W) (2 * (o : Int) + 4) (2 * (l.length : Int)) = false from by rw [outR_iff, wsB_len]; omega, if_neg (by decide), Int.toNat_natCast]
 unfold cov1
 rw [erow, if_pos]
 · unfold finC
   rw [if_pos ⟨hl, hl2⟩]
 · intro i hi
   unfold ok1
   have hx := hg _ (nth_mem hi)
   rw [decide_eq_false (show ¬ nth l i >= g by omega), Bool.false_or, Bool.not_eq_true', Bool.and_eq_false_iff]
   by_cases hi0 : 0 < i
   · right
     have := hr i hi0 hi
     exact decide_eq_false (by omega)
   · left
     exact decide_eq_false (by omega)
def withW (ws : List Int) (ps : List (List Int)) (cov : List Int) : List Int :=
 [nth ws 0, 2 * (ws.length : Int) + 2 + 2 * (ps.length : Int)] ++ ws.drop 1 ++ offs (2 * (ws.length : Int) + 2 + 2 * (ps.length : Int) + 2 * (cov.length : Int)) ps ++ cov ++ ps.flatten
end Go.Proofs.YtjflgkadagkllaaGreat

/- Kerned pairs as a table, and how they are read (plain Lean). -/
set_option maxRecDepth 100000
set_option linter.unusedVariables false
namespace Go.Proofs.YtjflgkadagkllaaGreat
open Go Go.Eng Go.RowKit
def chn : Int -> List Int -> Prop
 | _, [] => True
 | lo, x :: r => lo < x /\ chn x r
theorem chn_nth : ∀ (lo : Int) (l : List Int) (i : Nat), chn lo l -> 0 < i -> i < l.length -> nth l (i - 1) < nth l i
 | _, [], i, _, _, h => absurd h (Nat.not_lt_zero _)
 | lo, x :: r, 0, _, h, _ => absurd h (Nat.lt_irrefl _)
 | lo, x :: [], i + 1, _, _, h => absurd h (by simp)
 | lo, x :: y :: r, 1, h, _, _ => h.2.1
 | lo, x :: y :: r, i + 2, h, _, hl => chn_nth x (y :: r) (i + 1) h.2 (by omega) (by simpa using hl)
theorem chn_of : ∀ (l : List Int) (lo : Int), (0 < l.length -> lo < nth l 0) -> (∀ i, 0 < i -> i < l.length -> nth l (i - 1) < nth l i) -> chn lo l
 | [], _, _, _ => trivial
 | x :: r, lo, h0, h => ⟨h0 (by simp), chn_of r x (fun hr => h 1 (by omega) (by simpa using hr)) (fun i hi hl => by
  have := h (i + 1) (by omega) (by simpa using hl)
  rw [show i + 1 - 1 = (i - 1) + 1 from by omega] at this
  exact this)⟩
theorem chn_up {lo lo' x : Int} {r : List Int} (h : chn lo (x :: r)) (hl : lo' < x) : chn lo' (x :: r) := ⟨hl, h.2⟩
theorem chn_gt : ∀ (l : List Int) (lo : Int), chn lo l -> ∀ x ∈ l, lo < x
 | [], _, _, x, hx => (by cases hx)
 | y :: r, lo, h, x, hx => by
  rcases List.mem_cons.1 hx with rfl | hx
  · exact h.1
  · have := chn_gt r y h.2 x hx
    have := h.1
    omega
def kgrp : List Kern -> List (Int × List Kern)
 | [] => []
 | k :: r => match kgrp r with
  | [] => [(k.a, [k])]
  | (A, l) :: t => if A = k.a then (A, k :: l) :: t else (k.a, [k]) :: (A, l) :: t
def bsOf (l : List Kern) : List Int := l.map fun k => k.b
def ksOf (gs : List (Int × List Kern)) : List Int := gs.map fun p => p.1
structure KG (gs : List (Int × List Kern)) (ks : List Kern) : Prop where
 all : gs.flatMap (fun p => p.2) = ks
 one : ∀ p ∈ gs, p.2 ≠ [] /\ (∀ k ∈ p.2, k.a = p.1) /\ chn (-1) (bsOf p.2)
 key : chn (-1) (ksOf gs)
theorem kgrp_ok : ∀ (ks : List Kern), (∀ k ∈ ks, 0 <= k.a /\ 0 <= k.b) -> (∀ i, 0 < i -> i < ks.length -> kLex (nth ks (i - 1)) (nth ks i)) -> KG (kgrp ks) ks
 | [], _, _ => ⟨rfl, fun p hp => (by cases hp), trivial⟩
 | k :: r, h0, h => by
  have ih := kgrp_ok r (fun x hx => h0 x (List.mem_cons_of_mem _ hx)) (fun i hi hl => by
   have := h (i + 1) (by omega) (by simpa using hl)
   rw [show i + 1 - 1 = (i - 1) + 1 from by omega] at this
   exact this)
  have hk := h0 k (List.mem_cons_self ..)
  rw [kgrp]
  cases hg : kgrp r with
  | nil =>
   rw [hg] at ih
   have hr : r = [] := by rw [<- ih.all]; rfl
   subst hr
   refine ⟨rfl, fun p hp => ?_, ⟨show (-1 : Int) < k.a by omega, trivial⟩⟩
   rw [List.mem_singleton] at hp
   subst hp
   refine ⟨by simp, fun x hx => ?_, ⟨show (-1 : Int) < k.b by omega, trivial⟩⟩
   rw [List.mem_singleton] at hx
   subst hx; rfl
  | cons p t =>
   obtain ⟨A, l⟩ := p
   rw [hg] at ih
   obtain ⟨e1, e2, e3⟩ := ih
   obtain ⟨f1, f2, f3⟩ := e2 (A, l) (List.mem_cons_self ..)
   simp only at f1 f2 f3
   match l, f1, f2, f3, e1, e2 with
   | l0 :: l', f1, f2, f3, e1, e2 =>
    have ha : l0.a = A := f2 l0 (List.mem_cons_self ..)
    have hr : ∃ z, r = l0 :: z := ⟨_, e1.symm⟩
    obtain ⟨z, hz⟩ := hr
    have hlex : kLex k l0 := by
     have := h 1 (by omega) (by rw [hz]; simp)
     rw [hz] at this
     exact this
    simp only
    by_cases hA : A = k.a
    · rw [if_pos hA]
      have hb : k.b < l0.b := by
       rcases hlex with h1 | h1
       · omega
       · exact h1.2
      refine ⟨?_, ?_, e3⟩
      · rw [<- e1]; rfl
      · intro p hp
        rcases List.mem_cons.1 hp with rfl | hp
        · refine ⟨by simp, fun x hx => ?_, ⟨show (-1 : Int) < k.b by omega, chn_up f3 hb⟩⟩
          rcases List.mem_cons.1 hx with rfl | hx
          · exact hA.symm
          · exact f2 x hx
        · exact e2 p (List.mem_cons_of_mem _ hp)
    · rw [if_neg hA]
      have hb : k.a < A := by
       rcases hlex with h1 | h1
       · omega
       · omega
      refine ⟨?_, ?_, ⟨show (-1 : Int) < k.a by omega, chn_up e3 hb⟩⟩
      · rw [<- e1]; rfl
      · intro p hp
        rcases List.mem_cons.1 hp with rfl | hp
        · refine ⟨by simp, fun x hx => ?_, ⟨show (-1 : Int) < k.b by omega, trivial⟩⟩
          rw [List.mem_singleton] at hx
          subst hx; rfl
        · exact e2 p hp
def u16 (n : Int) : Int := IntKind.u16.wrap n
theorem u16_range (n : Int) : 0 <= u16 n /\ u16 n <= 65535 := by unfold u16; rw [IntKind.wrap_u16]; omega
theorem i16_u16 {x : Int} (h : -32768 <= x /\ x <= 32767) : i16 (u16 x) = x := by
 unfold i16 u16
 simp only [IntKind.wrap, IntKind.bits, IntKind.signed] at *
 simp at *
 omega
theorem dropN {α : Type} [Inhabited α] {l : List α} {i : Nat} (h : i < l.length) : l.drop i = nth l i :: l.drop (i + 1) := by
 rw [List.drop_eq_getElem_cons h, nthE h]
def flat2 {α : Type} (f h : α -> Int) (l : List α) : List Int := l.flatMap fun k => [f k, h k]
theorem flat2_len {α : Type} (f h : α -> Int) (l : List α) : (flat2 f h l).length = l.length * 2 := flatMap_len _ 2 l (fun _ _ => rfl)
theorem flat2_nth {α : Type} [Inhabited α] (f h : α -> Int) : ∀ (l : List α) (k : Nat), k < l.length -> nth (flat2 f h l) (2 * k) = f (nth l k) /\ nth (flat2 f h l) (2 * k + 1) = h (nth l k)
 | [], k, h => absurd h (Nat.not_lt_zero _)
 | x :: l, 0, _ => ⟨rfl, rfl⟩
 | x :: l, k + 1, hl => by
  have h1 := flat2_nth f h l k (by simpa using hl)
  exact h1
def ksetW (l : List Kern) : List Int := (l.length : Int) :: flat2 (fun k => k.b) (fun k => u16 k.x) l
theorem ksetW_len (l : List Kern) : (ksetW l).length = 1 + 2 * l.length := by unfold ksetW; rw [List.length_cons, flat2_len]; omega
def kerW (ks : List Kern) : List Int := withW [1, 4, 0, ((kgrp ks).length : Int)] ((kgrp ks).map fun p => ksetW p.2) (covW (ksOf (kgrp ks)))
structure KOk (g : Int) (k : Kern) : Prop where
 a : 0 <= k.a /\ k.a < g /\ k.a <= 65535
 b : 0 <= k.b /\ k.b < g /\ k.b <= 65535
 x : -32768 <= k.x /\ k.x <= 32767
theorem kset_word {W : List Int} {q : Nat} {l : List Kern} (h : At W q (ksetW l)) {g : Int} (hk : ∀ k ∈ l, KOk g k) {j : Nat} (hj : j < l.length) {t : Int} (ht : t = 2 * (q : Int)) :
 (outR (wsB W) (t + 2 + 4 * (j : Int)) 2 = false /\ wA (wsB W) (t + 2 + 4 * (j : Int)) = (nth l j).b) /\ outR (wsB W) (t + 4 + 4 * (j : Int)) 2 = false /\ wA (wsB W) (t + 4 + 4 * (j : Int)) = u16 (nth l j).x := by
 have hm := hk _ (nth_mem hj)
 obtain ⟨n1, n2⟩ := flat2_nth (fun k : Kern => k.b) (fun k => u16 k.x) l j hj
 have e1 : nth (ksetW l) (1 + 2 * j) = (nth l j).b := by rw [Nat.add_comm]; exact n1
 have e2 : nth (ksetW l) (2 + 2 * j) = u16 (nth l j).x := by rw [show 2 + 2 * j = (2 * j + 1) + 1 from by omega]; exact n2
 have hl := ksetW_len l
 have r1 := h.read (i := 1 + 2 * j) (by omega) (by rw [e1]; have := hm.b; omega) (a := t + 2 + 4 * (j : Int)) (by omega)
 have r2 := h.read (i := 2 + 2 * j) (by omega) (by rw [e2]; exact u16_range _) (a := t + 4 + 4 * (j : Int)) (by omega)
 rw [e1] at r1
 rw [e2] at r2
 exact ⟨r1, r2⟩
theorem kLoop_read {W : List Int} {q : Nat} {l : List Kern} (h : At W q (ksetW l)) {g A : Int} (hk : ∀ k ∈ l, KOk g k) (hA : ∀ k ∈ l, k.a = A) {t : Int} (ht : t = 2 * (q : Int)) :
 ∀ (m j : Nat) (last s : Int) (acc : List Kern), j + m = l.length -> chn last (bsOf (l.drop j)) -> s + (m : Int) <= 65536 -> kLoop (wsB W) g t A m j last s acc = some (acc ++ l.drop j, s + (m : Int))
 | 0, j, last, s, acc, hj, _, _ => by
  have : l.drop j = [] := List.drop_eq_nil_of_le (by omega)
  rw [this, kLoop, List.append_nil]; simp
 | m + 1, j, last, s, acc, hj, hc, hs => by
  have hjl : j < l.length := by omega
  have hd := dropN hjl
  have hm := hk _ (nth_mem hjl)
  have ha := hA _ (nth_mem hjl)
  obtain ⟨⟨o1, w1⟩, o2, w2⟩ := kset_word h hk hjl ht
  rw [hd] at hc
  have hc1 : last < (nth l j).b := hc.1
  have ih := kLoop_read h hk hA ht m (j + 1) (nth l j).b (s + 1) (acc ++ [nth l j]) (by omega) hc.2 (by push_cast at hs; omega)
  rw [kLoop, o1, o2, w1, w2, if_neg (by decide), if_neg (by decide), if_neg (by have := hm.b; omega), if_neg (by omega)]
  have ek : (⟨A, IntKind.u16.wrap (nth l j).b, i16 (u16 (nth l j).x)⟩ : Kern) = nth l j := by
   rw [i16_u16 hm.x, u16w (by have := hm.b; omega), <- ha]
  rw [ek, ih, hd, List.append_assoc]
  refine congrArg some (Prod.ext rfl ?_)
  push_cast
  show s + 1 + (m : Int) = _
  omega
theorem with_parts {W : List Int} {o : Nat} {ws : List Int} {ps : List (List Int)} {cov : List Int} (h : At W o (withW ws ps cov)) (hw : 0 < ws.length) :
 At W o [nth ws 0, 2 * (ws.length : Int) + 2 + 2 * (ps.length : Int)] /\ At W (o + 2) (ws.drop 1) /\ At W (o + 1 + ws.length) (offs (2 * (ws.length : Int) + 2 + 2 * (ps.length : Int) + 2 * (cov.length : Int)) ps) /\ At W (o + 1 + ws.length + ps.length) cov /\ At W (o + 1 + ws.length + ps.length + cov.length) ps.flatten := by
 unfold withW at h
 have h1 := h.l
 have h2 := h1.l
 have h3 := h2.l
 have hd : (ws.drop 1).length = ws.length - 1 := List.length_drop
 have hof := offs_len (2 * (ws.length : Int) + 2 + 2 * (ps.length : Int) + 2 * (cov.length : Int)) ps
 refine ⟨h3.l, h3.r rfl, h2.r ?_, h1.r ?_, h.r ?_⟩
 · rw [List.length_append, hd]; simp; omega
 · rw [List.length_append, List.length_append, hd, hof]; simp; omega
 · rw [List.length_append, List.length_append, List.length_append, hd, hof]; simp; omega
theorem withW_len (ws : List Int) (ps : List (List Int)) (cov : List Int) (hw : 0 < ws.length) : (withW ws ps cov).length = 1 + ws.length + ps.length + cov.length + ps.flatten.length := by
 unfold withW
 rw [List.length_append, List.length_append, List.length_append, List.length_append, offs_len, List.length_drop]
 simp
 omega
theorem ksOf_len (gs : List (Int × List Kern)) : (ksOf gs).length = gs.length := List.length_map _
theorem with_part {W : List Int} {o : Nat} {ws : List Int} {ps : List (List Int)} {cov : List Int} (h : At W o (withW ws ps cov)) (hw : 0 < ws.length) (hs : 2 * ((withW ws ps cov).length : Int) <= 65535) {i : Nat} (hi : i < ps.length) {a : Int} (ha : a = 2 * (o : Int)) {c : Int} (hc : c = 2 + 2 * (ws.length : Int) + 2 * (i : Int)) :
 ∃ q : Nat, outR (wsB W) (a + c) 2 = false /\ a + wA (wsB W) (a + c) = 2 * (q : Int) /\ At W q (nth ps i) := by
 obtain ⟨h1, h2, h3, h4, h5⟩ := with_parts h hw
 rw [withW_len _ _ _ hw] at hs
 have ht := take_flat_le ps i
 have e := offs_nth (2 * (ws.length : Int) + 2 + 2 * (ps.length : Int) + 2 * (cov.length : Int)) ps i hi
 have hl := offs_len (2 * (ws.length : Int) + 2 + 2 * (ps.length : Int) + 2 * (cov.length : Int)) ps
 have hr := h3.read (i := i) (by omega) (by rw [e]; push_cast at hs; omega) (a := a + c) (by push_cast; omega)
 rw [e] at hr
 refine ⟨o + 1 + ws.length + ps.length + cov.length + (ps.take i).flatten.length, hr.1, ?_, h5.flat hi⟩
 rw [hr.2]
 push_cast
 omega
theorem pLoop_read {W : List Int} {o : Nat} {gs : List (Int × List Kern)} {cov : List Int} (h : At W o (withW [1, 4, 0, (gs.length : Int)] (gs.map fun p => ksetW p.2) cov)) (hs : 2 * ((withW [1, 4, 0, (gs.length : Int)] (gs.map fun p => ksetW p.2) cov).length : Int) <= 65535) {g a : Int} (ha : a = 2 * (o : Int))
 (ho : ∀ p ∈ gs, p.2 ≠ [] /\ (∀ k ∈ p.2, k.a = p.1) /\ chn (-1) (bsOf p.2)) (hk : ∀ p ∈ gs, ∀ k ∈ p.2, KOk g k) :
 ∀ (m i : Nat) (s : Int) (acc : List Kern), i + m = gs.length -> s + (((gs.drop i).flatMap fun p => p.2).length : Int) <= 65536 -> pLoop (wsB W) g a (ksOf (gs.drop i)) i s acc = some (acc ++ (gs.drop i).flatMap (fun p => p.2), s + (((gs.drop i).flatMap fun p => p.2).length : Int))
 | 0, i, s, acc, hi, _ => by
  have : gs.drop i = [] := List.drop_eq_nil_of_le (by omega)
  rw [this]
  show some (acc, s) = _
  simp
 | m + 1, i, s, acc, hi, hsum => by
  have hil : i < gs.length := by omega
  have hd : gs.drop i = gs[i] :: gs.drop (i + 1) := List.drop_eq_getElem_cons hil
  have hmem : gs[i] ∈ gs := List.getElem_mem hil
  generalize hp : gs[i] = p at hd hmem
  obtain ⟨p1, p2, p3⟩ := ho p hmem
  have pk := hk p hmem
  obtain ⟨q, o1, w1, hq⟩ := with_part h (by simp) hs (i := i) (by rw [List.length_map]; exact hil) ha (c := 10 + 2 * (i : Int)) (by simp)
  rw [<- Int.add_assoc] at o1 w1
  have eq : nth (gs.map fun p => ksetW p.2) i = ksetW p.2 := by
   rw [nthE (by rw [List.length_map]; exact hil), List.getElem_map, hp]
  rw [eq] at hq
  have hcat : (gs.drop i).flatMap (fun p => p.2) = p.2 ++ (gs.drop (i + 1)).flatMap (fun p => p.2) := by rw [hd]; rfl
  rw [hcat] at hsum ⊢
  rw [List.length_append] at hsum ⊢
  have hpos : 0 < p.2.length := List.length_pos_iff.2 p1
  have hsl : 2 * ((ksetW p.2).length : Int) <= 65535 := by
   rw [withW_len _ _ _ (by simp)] at hs
   have := nth_flat_le (gs.map fun p => ksetW p.2) i (by rw [List.length_map]; exact hil)
   rw [eq] at this
   push_cast at hs
   omega
  rw [ksetW_len] at hsl
  have hr := hq.read (i := 0) (by rw [ksetW_len]; omega) (by show 0 <= (p.2.length : Int) /\ (p.2.length : Int) <= 65535; push_cast at hsl; omega) (a := 2 * (q : Int)) rfl
  have e0 : nth (ksetW p.2) 0 = (p.2.length : Int) := rfl
  rw [e0] at hr
  have hk2 := kLoop_read hq pk p2 rfl p.2.length 0 (-1) s acc (by omega) p3 (by push_cast at hsum; omega)
  have ih := pLoop_read h hs ha ho hk m (i + 1) (s + (p.2.length : Int)) (acc ++ p.2) (by omega) (by push_cast at hsum; omega)
  rw [hd]
  show pLoop (wsB W) g a (p.1 :: ksOf (gs.drop (i + 1))) i s acc = _
  rw [pLoop, o1, if_neg (by decide), w1, hr.1, if_neg (by decide), hr.2, if_neg (by omega), Int.toNat_natCast, hk2]
  simp only [List.drop_zero]
  rw [ih, List.append_assoc]
  refine congrArg some (Prod.ext rfl ?_)
  push_cast
  show s + (p.2.length : Int) + _ = _
  omega
theorem ker_read {W : List Int} {o : Nat} {ks : List Kern} (h : At W o (kerW ks)) (hs : 2 * ((kerW ks).length : Int) <= 65535) {g a s : Int} (ha : a = 2 * (o : Int)) (h0 : ks ≠ []) (hk : ∀ k ∈ ks, KOk g k) (hlex : ∀ i, 0 < i -> i < ks.length -> kLex (nth ks (i - 1)) (nth ks i)) (hsum : s + 2 * (ks.length : Int) <= 65536) :
 ∃ s', pairsX (wsB W) g a s = some (ks, s') /\ s' <= s + 2 * (ks.length : Int) /\ s <= s' := by
 have hg := kgrp_ok ks (fun k hk' => ⟨(hk k hk').a.1, (hk k hk').b.1⟩) hlex
 unfold kerW at h hs
 generalize kgrp ks = gs at *
 obtain ⟨g1, g2, g3⟩ := hg
 have hlen : gs.length <= ks.length /\ 0 < gs.length := by
  constructor
  · rw [<- g1]
    clear g1 g3 h hs
    induction gs with
    | nil => simp
    | cons p t ih =>
     have := List.length_pos_iff.2 (g2 p (List.mem_cons_self ..)).1
     have := ih (fun q hq => g2 q (List.mem_cons_of_mem _ hq))
     rw [List.flatMap_cons, List.length_append, List.length_cons]
     omega
  · cases gs with
    | nil => exact absurd g1.symm h0
    | cons p t => simp
 have hmem : ∀ p ∈ gs, ∀ k ∈ p.2, KOk g k := fun p hp k hkp => hk k (by rw [<- g1]; exact List.mem_flatMap.2 ⟨p, hp, hkp⟩)
 obtain ⟨p1, p2, p3, p4, p5⟩ := with_parts h (by simp)
 have hsz := hs
 rw [withW_len _ _ _ (by simp), List.length_map, covW_len, ksOf_len] at hsz
 simp only [List.length_cons, List.length_nil, List.length_map] at p1 p2 p3 p4 p5 hsz
 have hkr : ∀ x ∈ ksOf gs, 0 <= x /\ x < g /\ x <= 65535 := by
  intro x hx
  obtain ⟨p, hp, rfl⟩ := List.mem_map.1 hx
  obtain ⟨q1, q2, _⟩ := g2 p hp
  obtain ⟨k, hkp⟩ := List.exists_mem_of_ne_nil _ q1
  have := (hmem p hp k hkp).a
  rw [q2 k hkp] at this
  exact this
 have hcov := cov_read (g := g) p4 (by rw [ksOf_len]; omega) (by rw [ksOf_len]; push_cast at hsz; omega) (fun x hx => ⟨(hkr x hx).1, (hkr x hx).2.2⟩) (fun x hx => (hkr x hx).2.1) (fun i hi hl => chn_nth _ _ i g3 hi hl) rfl
 have hn : (0 : Int) <= (gs.length : Int) /\ (gs.length : Int) <= 65535 := by push_cast at hsz; omega
 have r0 := p1.read (i := 0) (by simp) (show (0 : Int) <= 1 /\ (1 : Int) <= 65535 by omega) (a := a) (by omega)
 have r1 := p1.read (i := 1) (by simp) (show (0 : Int) <= 2 * ((4 : Nat) : Int) + 2 + 2 * (gs.length : Int) /\ 2 * ((4 : Nat) : Int) + 2 + 2 * (gs.length : Int) <= 65535 by push_cast at hsz; omega) (a := a + 2) (by omega)
 have r2 := p2.read (i := 0) (by simp) (show (0 : Int) <= 4 /\ (4 : Int) <= 65535 by omega) (a := a + 4) (by omega)
 have r3 := p2.read (i := 1) (by simp) (show (0 : Int) <= 0 /\ (0 : Int) <= 65535 by omega) (a := a + 6) (by omega)
 have r4 := p2.read (i := 2) (by simp) (show (0 : Int) <= (gs.length : Int) /\ (gs.length : Int) <= 65535 from hn) (a := a + 8) (by omega)
 have v0 : wA (wsB W) a = 1 := r0.2
 have v1 : wA (wsB W) (a + 2) = 2 * ((4 : Nat) : Int) + 2 + 2 * (gs.length : Int) := r1.2
 have v2 : wA (wsB W) (a + 4) = 4 := r2.2
 have v3 : wA (wsB W) (a + 6) = 0 := r3.2
 have v4 : wA (wsB W) (a + 8) = (gs.length : Int) := r4.2
 have hpl := pLoop_read h hs ha g2 hmem gs.length 0 (s + (gs.length : Int)) [] (by omega) (by rw [List.drop_zero, g1]; omega)
 rw [List.drop_zero, g1, List.nil_append] at hpl
 refine ⟨s + (gs.length : Int) + (ks.length : Int), ?_, by omega, by omega⟩
 unfold pairsX setX
 rw [r1.1, if_neg (by decide), v1]
 rw [show a + (2 * ((4 : Nat) : Int) + 2 + 2 * (gs.length : Int)) = 2 * ((o + 1 + (0 + 1 + 1 + 1 + 1) + gs.length : Nat) : Int) from by omega, hcov]
 simp only
 rw [ksOf_len, if_pos (by omega)]
 simp only
 rw [r0.1, r2.1, r3.1, r4.1, v0, v2, v3, v4, ksOf_len]
 simp only [Bool.false_eq_true, if_false, not_true]
 exact hpl
end Go.Proofs.YtjflgkadagkllaaGreat
