/- Marks and what they stand on as a table, and how they are read (plain Lean). -/
import Derived.Test.YtjflgkadagkllaaGreatQ1
set_option maxRecDepth 100000
set_option linter.unusedVariables false
namespace Go.Proofs.YtjflgkadagkllaaGreat
open Go Go.Eng Go.RowKit
def anchW (x y : Int) : List Int := [1, u16 x, u16 y]
theorem point_read {W : List Int} {q : Nat} {x y : Int} (h : At W q (anchW x y)) (hx : -32768 <= x /\ x <= 32767) (hy : -32768 <= y /\ y <= 32767) {a s : Int} (ha : a = 2 * (q : Int)) (hs : s + 1 <= 65536) : pointX (wsB W) a s = some (x, y, s + 1) := by
 have hl : (anchW x y).length = 3 := rfl
 have r0 := h.read (i := 0) (by rw [hl]; omega) (show (0 : Int) <= 1 /\ (1 : Int) <= 65535 by omega) (a := a) (by omega)
 have r1 := h.read (i := 1) (by rw [hl]; omega) (u16_range x) (a := a + 2) (by omega)
 have r2 := h.read (i := 2) (by rw [hl]; omega) (u16_range y) (a := a + 4) (by omega)
 have v0 : wA (wsB W) a = 1 := r0.2
 have v1 : wA (wsB W) (a + 2) = u16 x := r1.2
 have v2 : wA (wsB W) (a + 4) = u16 y := r2.2
 unfold pointX
 rw [r0.1, r1.1, r2.1, v0, v1, v2, if_neg (by decide), if_neg (by decide), if_neg (by omega), if_neg (by decide), if_neg (by decide), i16_u16 hx, i16_u16 hy]
def mrec : Int -> List Mark -> List Int
 | _, [] => []
 | d, m :: r => m.c :: d :: mrec (d + 6) r
theorem mrec_len : ∀ (d : Int) (ms : List Mark), (mrec d ms).length = 2 * ms.length
 | _, [] => rfl
 | d, m :: r => by rw [mrec, List.length_cons, List.length_cons, List.length_cons, mrec_len]; omega
theorem mrec_nth : ∀ (ms : List Mark) (d : Int) (i : Nat), i < ms.length -> nth (mrec d ms) (2 * i) = (nth ms i).c /\ nth (mrec d ms) (2 * i + 1) = d + 6 * (i : Int)
 | [], _, i, h => absurd h (Nat.not_lt_zero _)
 | m :: r, d, 0, _ => ⟨rfl, by show d = _; omega⟩
 | m :: r, d, i + 1, h => by
  obtain ⟨h1, h2⟩ := mrec_nth r (d + 6) i (by simpa using h)
  refine ⟨h1, ?_⟩
  have e : nth (mrec d (m :: r)) (2 * (i + 1) + 1) = nth (mrec (d + 6) r) (2 * i + 1) := rfl
  rw [e, h2]
  push_cast
  omega
def mPts (ms : List Mark) : List (List Int) := ms.map fun m => anchW m.x m.y
def arrW (ms : List Mark) : List Int := [(ms.length : Int)] ++ mrec (2 + 4 * (ms.length : Int)) ms ++ (mPts ms).flatten
theorem flat_const {ps : List (List Int)} {c : Nat} (h : ∀ p ∈ ps, p.length = c) : ps.flatten.length = c * ps.length := by
 induction ps with
 | nil => simp
 | cons p r ih =>
  rw [List.flatten_cons, List.length_append, List.length_cons, ih (fun q hq => h q (List.mem_cons_of_mem _ hq)), h p (List.mem_cons_self ..), Nat.mul_add, Nat.mul_one]
  omega
theorem mPts_take (ms : List Mark) (i : Nat) (h : i <= ms.length) : ((mPts ms).take i).flatten.length = 3 * i := by
 rw [flat_const (c := 3)]
 · unfold mPts
   rw [List.length_take, List.length_map]
   omega
 · intro p hp
   have := List.mem_of_mem_take hp
   unfold mPts at this
   obtain ⟨m, _, rfl⟩ := List.mem_map.1 this
   rfl
theorem arrW_len (ms : List Mark) : (arrW ms).length = 1 + 5 * ms.length := by
 have h := mPts_take ms ms.length (Nat.le_refl _)
 have e : (mPts ms).take ms.length = mPts ms := List.take_of_length_le (by unfold mPts; simp)
 rw [e] at h
 unfold arrW
 rw [List.length_append, List.length_append, mrec_len, h]
 simp
 omega
structure MOk (g n : Int) (m : Mark) : Prop where
 g : 0 <= m.g /\ m.g < g /\ m.g <= 65535
 c : 0 <= m.c /\ m.c < n /\ m.c <= 65535
 x : -32768 <= m.x /\ m.x <= 32767
 y : -32768 <= m.y /\ m.y <= 32767
theorem mLoop_read {W : List Int} {q : Nat} {ms : List Mark} (h : At W q (arrW ms)) (hs : 2 * ((arrW ms).length : Int) <= 65535) {g n f : Int} (hk : ∀ m ∈ ms, MOk g n m) (hf : f = 2 * (q : Int)) :
 ∀ (k i : Nat) (s : Int) (acc : List Mark), i + k = ms.length -> s + (k : Int) <= 65536 -> mLoop (wsB W) n f ((ms.drop i).map fun m => m.g) i s acc = some (acc ++ ms.drop i, s + (k : Int))
 | 0, i, s, acc, hi, _ => by
  have : ms.drop i = [] := List.drop_eq_nil_of_le (by omega)
  rw [this]
  show some (acc, s) = _
  simp
 | k + 1, i, s, acc, hi, hsum => by
  have hil : i < ms.length := by omega
  have hd := dropN hil
  have hm := hk _ (nth_mem hil)
  obtain ⟨n1, n2⟩ := mrec_nth ms (2 + 4 * (ms.length : Int)) i hil
  rw [arrW_len] at hs
  have hml := mrec_len (2 + 4 * (ms.length : Int)) ms
  have hA : At W (q + 1) (mrec (2 + 4 * (ms.length : Int)) ms) := h.l.r rfl
  have hP : At W (q + 1 + 2 * ms.length) (mPts ms).flatten := by
   refine At.r h ?_
   rw [List.length_append, hml]
   show q + 1 + 2 * ms.length = q + (1 + 2 * ms.length)
   omega
  have hp := At.flat hP (i := i) (by unfold mPts; rw [List.length_map]; exact hil)
  have ep : nth (mPts ms) i = anchW (nth ms i).x (nth ms i).y := by unfold mPts; rw [nth_map _ hil]
  rw [ep, mPts_take _ _ (by omega)] at hp
  have r1 := hA.read (i := 2 * i) (by omega) (by rw [n1]; have := hm.c; omega) (a := f + 2 + 4 * (i : Int)) (by push_cast; omega)
  have r2 := hA.read (i := 2 * i + 1) (by omega) (by rw [n2]; push_cast at hs; omega) (a := f + 4 + 4 * (i : Int)) (by push_cast; omega)
  rw [n1] at r1
  rw [n2] at r2
  have hpt := point_read hp hm.x hm.y (a := f + (2 + 4 * (ms.length : Int) + 6 * (i : Int))) (s := s) (by push_cast; omega) (by push_cast at hsum; omega)
  have ih := mLoop_read h (by rw [arrW_len]; exact hs) hk hf k (i + 1) (s + 1) (acc ++ [nth ms i]) (by omega) (by push_cast at hsum; omega)
  rw [hd]
  show mLoop (wsB W) n f ((nth ms i).g :: (ms.drop (i + 1)).map fun m => m.g) i s acc = _
  rw [mLoop, r1.1, if_neg (by decide), r1.2, if_neg (by have := hm.c; omega), r2.1, if_neg (by decide), r2.2, hpt]
  simp only
  have em : (⟨(nth ms i).g, IntKind.u16.wrap (nth ms i).c, (nth ms i).x, (nth ms i).y⟩ : Mark) = nth ms i := by rw [u16w (by have := hm.c; omega)]
  rw [em, ih, List.append_assoc]
  refine congrArg some (Prod.ext rfl ?_)
  push_cast
  show s + 1 + (k : Int) = _
  omega
def arec : Int -> Int -> List Anchor -> List Int
 | _, _, [] => []
 | e, d, a :: r => if a.has then (e + d) :: arec e (d + 6) r else 0 :: arec e d r
def aPts (l : List Anchor) : List (List Int) := l.map fun a => if a.has then anchW a.x a.y else []
theorem arec_len : ∀ (e d : Int) (l : List Anchor), (arec e d l).length = l.length
 | _, _, [] => rfl
 | e, d, a :: r => by
  rw [arec]
  cases a.has
  · rw [if_neg (by decide), List.length_cons, List.length_cons, arec_len]
  · rw [if_pos rfl, List.length_cons, List.length_cons, arec_len]
theorem arec_nth : ∀ (l : List Anchor) (e d : Int) (i : Nat), i < l.length -> nth (arec e d l) i = if (nth l i).has then e + d + 2 * (((aPts l).take i).flatten.length : Int) else 0
 | [], _, _, i, h => absurd h (Nat.not_lt_zero _)
 | a :: r, e, d, 0, _ => by
  rw [arec]
  have e0 : nth (a :: r) 0 = a := rfl
  rw [e0]
  cases a.has
  · rfl
  · simp [nth]
 | a :: r, e, d, i + 1, h => by
  have e0 : nth (a :: r) (i + 1) = nth r i := rfl
  have e1 : ((aPts (a :: r)).take (i + 1)).flatten.length = (if a.has then anchW a.x a.y else []).length + ((aPts r).take i).flatten.length := by
   show (((if a.has then anchW a.x a.y else []) :: aPts r).take (i + 1)).flatten.length = _
   rw [List.take_succ_cons, List.flatten_cons, List.length_append]
  rw [e0, e1, arec]
  cases a.has
  · rw [if_neg (by decide)]
    have h1 := arec_nth r e d i (by simpa using h)
    have e2 : nth (0 :: arec e d r) (i + 1) = nth (arec e d r) i := rfl
    rw [e2, h1]
    simp
  · rw [if_pos rfl]
    have h1 := arec_nth r e (d + 6) i (by simpa using h)
    have e2 : nth ((e + d) :: arec e (d + 6) r) (i + 1) = nth (arec e (d + 6) r) i := rfl
    rw [e2, h1]
    have e3 : (if true = true then anchW a.x a.y else []).length = 3 := rfl
    rw [e3]
    cases (nth r i).has
    · rfl
    · simp only [if_true]
      push_cast
      omega
def ansOf (bs : List Base) : List Anchor := bs.flatMap fun b => b.an
def tabW (n : Nat) (bs : List Base) : List Int := [(bs.length : Int)] ++ arec (2 + 2 * (n : Int) * (bs.length : Int)) 0 (ansOf bs) ++ (aPts (ansOf bs)).flatten
theorem tabW_len (n : Nat) (bs : List Base) : (tabW n bs).length = 1 + (ansOf bs).length + (aPts (ansOf bs)).flatten.length := by
 unfold tabW
 rw [List.length_append, List.length_append, arec_len]
 simp
theorem ans_nth : ∀ (bs : List Base) (n i k : Nat), (∀ b ∈ bs, b.an.length = n) -> i < bs.length -> k < n -> nth (ansOf bs) (i * n + k) = nth (nth bs i).an k
 | [], n, i, k, _, h, _ => absurd h (Nat.not_lt_zero _)
 | b :: r, n, 0, k, hn, _, hk => by
  have hb := hn b (List.mem_cons_self ..)
  show nth (b.an ++ ansOf r) (0 * n + k) = nth b.an k
  rw [Nat.zero_mul, Nat.zero_add]
  unfold nth
  rw [List.getD_eq_getElem?_getD, List.getD_eq_getElem?_getD, List.getElem?_append_left (by omega)]
 | b :: r, n, i + 1, k, hn, hi, hk => by
  have hb := hn b (List.mem_cons_self ..)
  have ih := ans_nth r n i k (fun x hx => hn x (List.mem_cons_of_mem _ hx)) (by simpa using hi) hk
  show nth (b.an ++ ansOf r) ((i + 1) * n + k) = nth (nth r i).an k
  rw [<- ih]
  unfold nth
  rw [List.getD_eq_getElem?_getD, List.getD_eq_getElem?_getD, List.getElem?_append_right (by rw [hb, Nat.add_mul, Nat.one_mul]; omega), hb, show (i + 1) * n + k - n = i * n + k from by rw [Nat.add_mul, Nat.one_mul]; omega]
theorem ans_len : ∀ (bs : List Base) (n : Nat), (∀ b ∈ bs, b.an.length = n) -> (ansOf bs).length = n * bs.length
 | [], n, _ => by simp [ansOf]
 | b :: r, n, hn => by
  show (b.an ++ ansOf r).length = _
  rw [List.length_append, hn b (List.mem_cons_self ..), ans_len r n (fun x hx => hn x (List.mem_cons_of_mem _ hx)), List.length_cons, Nat.mul_add, Nat.mul_one]
  omega
structure AOk (a : Anchor) : Prop where
 x : -32768 <= a.x /\ a.x <= 32767
 y : -32768 <= a.y /\ a.y <= 32767
 no : a.has = false -> a.x = 0 /\ a.y = 0
theorem idx_lt {i k n m : Nat} (hi : i < m) (hk : k < n) : i * n + k < n * m := by
 have h1 : (i + 1) * n <= m * n := Nat.mul_le_mul_right n hi
 rw [Nat.add_mul, Nat.one_mul] at h1
 rw [Nat.mul_comm n m]
 omega
theorem aLoop_read {W : List Int} {q n : Nat} {bs : List Base} (h : At W q (tabW n bs)) (hs : 2 * ((tabW n bs).length : Int) <= 65535) (hn : ∀ b ∈ bs, b.an.length = n) (ha : ∀ b ∈ bs, ∀ a ∈ b.an, AOk a) {e : Int} (he : e = 2 * (q : Int)) {i : Nat} (hi : i < bs.length) :
 ∀ (m k : Nat) (s : Int) (acc : List Anchor), k + m = n -> s + (m : Int) <= 65536 -> aLoop (wsB W) e n i m k s acc = some (acc ++ (nth bs i).an.drop k, s + (m : Int))
 | 0, k, s, acc, hk, _ => by
  have hb := hn _ (nth_mem hi)
  have : (nth bs i).an.drop k = [] := List.drop_eq_nil_of_le (by omega)
  rw [this]
  show some (acc, s) = _
  simp
 | m + 1, k, s, acc, hk, hsum => by
  have hb := hn _ (nth_mem hi)
  have hkn : k < n := by omega
  have hka : k < (nth bs i).an.length := by omega
  have hd := dropN hka
  have hA := ha _ (nth_mem hi) _ (nth_mem hka)
  have hidx := idx_lt hi hkn
  have hal := ans_len bs n hn
  rw [tabW_len] at hs
  have hR : At W (q + 1) (arec (2 + 2 * (n : Int) * (bs.length : Int)) 0 (ansOf bs)) := h.l.r rfl
  have hP : At W (q + 1 + (ansOf bs).length) (aPts (ansOf bs)).flatten := by
   refine At.r h ?_
   rw [List.length_append, arec_len]
   show q + 1 + (ansOf bs).length = q + (1 + (ansOf bs).length)
   omega
  have hrn := arec_nth (ansOf bs) (2 + 2 * (n : Int) * (bs.length : Int)) 0 (i * n + k) (by omega)
  rw [ans_nth bs n i k hn hi hkn] at hrn
  have htl := take_flat_le (aPts (ansOf bs)) (i * n + k)
  have hmul : 2 * (n : Int) * (bs.length : Int) = 2 * ((ansOf bs).length : Int) := by rw [hal]; push_cast; rw [Int.mul_assoc]
  rw [hmul] at hrn hR
  have hat : aAt e n i k = 2 * ((q + 1 + (i * n + k) : Nat) : Int) := by unfold aAt; push_cast; omega
  have hal2 : (arec (2 + 2 * ((ansOf bs).length : Int)) 0 (ansOf bs)).length = (ansOf bs).length := arec_len _ _ _
  rw [aLoop]
  cases hh : (nth (nth bs i).an k).has with
  | false =>
   rw [hh] at hrn
   have hrn : nth (arec (2 + 2 * ((ansOf bs).length : Int)) 0 (ansOf bs)) (i * n + k) = 0 := hrn
   have r := hR.read (i := i * n + k) (by omega) (by rw [hrn]; omega) hat
   rw [hrn] at r
   have ih := aLoop_read h (by rw [tabW_len]; exact hs) hn ha he hi m (k + 1) (s + 1) (acc ++ [nth (nth bs i).an k]) (by omega) (by push_cast at hsum; omega)
   have ea : (⟨false, 0, 0⟩ : Anchor) = nth (nth bs i).an k := by
    obtain ⟨h1, h2⟩ := hA.no hh
    generalize nth (nth bs i).an k = z at *
    cases z
    simp only at hh h1 h2
    rw [hh, h1, h2]
   rw [r.1, if_neg (by decide), r.2, if_pos rfl, if_neg (by push_cast at hsum; omega), ea, ih, hd, List.append_assoc]
   refine congrArg some (Prod.ext rfl ?_)
   push_cast
   show s + 1 + (m : Int) = _
   omega
  | true =>
   rw [hh] at hrn
   have hrn : nth (arec (2 + 2 * ((ansOf bs).length : Int)) 0 (ansOf bs)) (i * n + k) = 2 + 2 * ((ansOf bs).length : Int) + 0 + 2 * (((aPts (ansOf bs)).take (i * n + k)).flatten.length : Int) := hrn
   have r := hR.read (i := i * n + k) (by omega) (by rw [hrn]; push_cast at hs; omega) hat
   rw [hrn] at r
   have hp := At.flat hP (i := i * n + k) (by unfold aPts; rw [List.length_map]; omega)
   have ep : nth (aPts (ansOf bs)) (i * n + k) = anchW (nth (nth bs i).an k).x (nth (nth bs i).an k).y := by
    unfold aPts
    rw [nth_map _ (by omega), ans_nth bs n i k hn hi hkn, hh, if_pos rfl]
   rw [ep] at hp
   have hpt := point_read hp hA.x hA.y (a := e + (2 + 2 * ((ansOf bs).length : Int) + 0 + 2 * (((aPts (ansOf bs)).take (i * n + k)).flatten.length : Int))) (s := s) (by push_cast; omega) (by push_cast at hsum; omega)
   have ih := aLoop_read h (by rw [tabW_len]; exact hs) hn ha he hi m (k + 1) (s + 1) (acc ++ [nth (nth bs i).an k]) (by omega) (by push_cast at hsum; omega)
   have ea : (⟨true, (nth (nth bs i).an k).x, (nth (nth bs i).an k).y⟩ : Anchor) = nth (nth bs i).an k := by
    generalize nth (nth bs i).an k = z at *
    cases z
    simp only at hh
    rw [hh]
   rw [r.1, if_neg (by decide), r.2, if_neg (by push_cast; omega), hpt]
   simp only
   rw [ea, ih, hd, List.append_assoc]
   refine congrArg some (Prod.ext rfl ?_)
   push_cast
   show s + 1 + (m : Int) = _
   omega
theorem bLoop_read {W : List Int} {q n : Nat} {bs : List Base} (h : At W q (tabW n bs)) (hs : 2 * ((tabW n bs).length : Int) <= 65535) (hn : ∀ b ∈ bs, b.an.length = n) (ha : ∀ b ∈ bs, ∀ a ∈ b.an, AOk a) {e : Int} (he : e = 2 * (q : Int)) :
 ∀ (m i : Nat) (s : Int) (acc : List Base), i + m = bs.length -> s + (n : Int) * (m : Int) <= 65536 -> bLoop (wsB W) e n ((bs.drop i).map fun b => b.g) i s acc = some (acc ++ bs.drop i, s + (n : Int) * (m : Int))
 | 0, i, s, acc, hi, _ => by
  have : bs.drop i = [] := List.drop_eq_nil_of_le (by omega)
  rw [this]
  show some (acc, s) = _
  simp
 | m + 1, i, s, acc, hi, hsum => by
  have hil : i < bs.length := by omega
  have hd := dropN hil
  have em : (n : Int) * ((m + 1 : Nat) : Int) = (n : Int) + (n : Int) * (m : Int) := by push_cast; rw [Int.mul_add, Int.mul_one, Int.add_comm]
  rw [em] at hsum
  have hnm : 0 <= (n : Int) * (m : Int) := Int.mul_nonneg (by omega) (by omega)
  have h1 := aLoop_read h hs hn ha he hil n 0 s [] (by omega) (by omega)
  have ih := bLoop_read h hs hn ha he m (i + 1) (s + (n : Int)) (acc ++ [nth bs i]) (by omega) (by omega)
  rw [hd]
  show bLoop (wsB W) e n ((nth bs i).g :: (bs.drop (i + 1)).map fun b => b.g) i s acc = _
  rw [bLoop, h1]
  simp only [List.drop_zero, List.nil_append]
  rw [ih, List.append_assoc, em]
  refine congrArg some (Prod.ext rfl ?_)
  show s + (n : Int) + (n : Int) * (m : Int) = _
  omega
def gsM (ms : List Mark) : List Int := ms.map fun m => m.g
def gsB (bs : List Base) : List Int := bs.map fun b => b.g
def marW (n : Nat) (ms : List Mark) (bs : List Base) : List Int :=
 [1, 12, 12 + 2 * ((covW (gsM ms)).length : Int), (n : Int), 12 + 2 * ((covW (gsM ms)).length : Int) + 2 * ((covW (gsB bs)).length : Int), 12 + 2 * ((covW (gsM ms)).length : Int) + 2 * ((covW (gsB bs)).length : Int) + 2 * ((arrW ms).length : Int)]
  ++ covW (gsM ms) ++ covW (gsB bs) ++ arrW ms ++ tabW n bs
theorem marW_len (n : Nat) (ms : List Mark) (bs : List Base) : (marW n ms bs).length = 6 + (covW (gsM ms)).length + (covW (gsB bs)).length + (arrW ms).length + (tabW n bs).length := by
 unfold marW
 rw [List.length_append, List.length_append, List.length_append, List.length_append]
 rfl
theorem mar_read {W : List Int} {o n : Nat} {ms : List Mark} {bs : List Base} (h : At W o (marW n ms bs)) (hs : 2 * ((marW n ms bs).length : Int) <= 65535) {g a s : Int} (ha : a = 2 * (o : Int)) (hn0 : 0 < n) (hn1 : n <= 65535) (hm0 : ms ≠ []) (hb0 : bs ≠ [])
 (hm : ∀ m ∈ ms, MOk g (n : Int) m) (hmr : ∀ i, 0 < i -> i < ms.length -> (nth ms (i - 1)).g < (nth ms i).g)
 (hb : ∀ b ∈ bs, 0 <= b.g /\ b.g < g /\ b.g <= 65535) (hbr : ∀ i, 0 < i -> i < bs.length -> (nth bs (i - 1)).g < (nth bs i).g) (hbn : ∀ b ∈ bs, b.an.length = n) (hba : ∀ b ∈ bs, ∀ a ∈ b.an, AOk a)
 (hsum : s + 2 * (ms.length : Int) + (bs.length : Int) + (n : Int) * (bs.length : Int) <= 65536) :
 marksX (wsB W) g a s = some (ms, bs, s + 2 * (ms.length : Int) + (bs.length : Int) + (n : Int) * (bs.length : Int)) := by
 have hsz := hs
 rw [marW_len, covW_len, covW_len] at hsz
 unfold marW at h
 have h1 := h.l
 have h2 := h1.l
 have h3 := h2.l
 have h4 := h3.l
 have hA : At W (o + 6) (covW (gsM ms)) := h3.r rfl
 have hC : At W (o + 6 + (covW (gsM ms)).length) (covW (gsB bs)) := h2.r (by rw [List.length_append]; show _ = o + (6 + _); omega)
 have hR : At W (o + 6 + (covW (gsM ms)).length + (covW (gsB bs)).length) (arrW ms) := h1.r (by rw [List.length_append, List.length_append]; show _ = o + (6 + _ + _); omega)
 have hT : At W (o + 6 + (covW (gsM ms)).length + (covW (gsB bs)).length + (arrW ms).length) (tabW n bs) := h.r (by rw [List.length_append, List.length_append, List.length_append]; show _ = o + (6 + _ + _ + _); omega)
 have lm : (gsM ms).length = ms.length := List.length_map _
 have lb : (gsB bs).length = bs.length := List.length_map _
 have pm := List.length_pos_iff.2 hm0
 have pb := List.length_pos_iff.2 hb0
 rw [lm, lb] at hsz
 rw [covW_len, covW_len, lm, lb] at h4
 rw [covW_len, lm] at hC hR hT
 rw [covW_len, lb] at hR hT
 push_cast at hsz
 have nM : ∀ i, i < ms.length -> nth (gsM ms) i = (nth ms i).g := fun i hi => by unfold gsM; rw [nth_map _ hi]
 have nB : ∀ i, i < bs.length -> nth (gsB bs) i = (nth bs i).g := fun i hi => by unfold gsB; rw [nth_map _ hi]
 have cM := cov_read (g := g) hA (by omega) (by omega) (fun x hx => by
  obtain ⟨m, hmm, rfl⟩ := List.mem_map.1 hx
  have := (hm m hmm).g; omega) (fun x hx => by
  obtain ⟨m, hmm, rfl⟩ := List.mem_map.1 hx
  have := (hm m hmm).g; omega) (fun i hi hl => by
  rw [lm] at hl
  rw [nM _ (by omega), nM _ hl]
  exact hmr i hi hl) rfl
 have cB := cov_read (g := g) hC (by omega) (by omega) (fun x hx => by
  obtain ⟨m, hmm, rfl⟩ := List.mem_map.1 hx
  have := hb m hmm; omega) (fun x hx => by
  obtain ⟨m, hmm, rfl⟩ := List.mem_map.1 hx
  have := hb m hmm; omega) (fun i hi hl => by
  rw [lb] at hl
  rw [nB _ (by omega), nB _ hl]
  exact hbr i hi hl) rfl
 have r0 := h4.read (i := 0) (by simp) (show (0 : Int) <= 1 /\ (1 : Int) <= 65535 by omega) (a := a) (by omega)
 have r1 := h4.read (i := 1) (by simp) (show (0 : Int) <= 12 /\ (12 : Int) <= 65535 by omega) (a := a + 2) (by omega)
 have r2 := h4.read (i := 2) (by simp) (show (0 : Int) <= 12 + 2 * ((ms.length + 2 : Nat) : Int) /\ 12 + 2 * ((ms.length + 2 : Nat) : Int) <= 65535 by push_cast; omega) (a := a + 4) (by omega)
 have r3 := h4.read (i := 3) (by simp) (show (0 : Int) <= (n : Int) /\ (n : Int) <= 65535 by omega) (a := a + 6) (by omega)
 have r4 := h4.read (i := 4) (by simp) (show (0 : Int) <= 12 + 2 * ((ms.length + 2 : Nat) : Int) + 2 * ((bs.length + 2 : Nat) : Int) /\ 12 + 2 * ((ms.length + 2 : Nat) : Int) + 2 * ((bs.length + 2 : Nat) : Int) <= 65535 by push_cast; omega) (a := a + 8) (by omega)
 have r5 := h4.read (i := 5) (by simp) (show (0 : Int) <= 12 + 2 * ((ms.length + 2 : Nat) : Int) + 2 * ((bs.length + 2 : Nat) : Int) + 2 * ((arrW ms).length : Int) /\ 12 + 2 * ((ms.length + 2 : Nat) : Int) + 2 * ((bs.length + 2 : Nat) : Int) + 2 * ((arrW ms).length : Int) <= 65535 by push_cast; omega) (a := a + 10) (by omega)
 have v0 : wA (wsB W) a = 1 := r0.2
 have v1 : wA (wsB W) (a + 2) = 12 := r1.2
 have v2 : wA (wsB W) (a + 4) = 12 + 2 * ((ms.length + 2 : Nat) : Int) := r2.2
 have v3 : wA (wsB W) (a + 6) = (n : Int) := r3.2
 have v4 : wA (wsB W) (a + 8) = 12 + 2 * ((ms.length + 2 : Nat) : Int) + 2 * ((bs.length + 2 : Nat) : Int) := r4.2
 have v5 : wA (wsB W) (a + 10) = 12 + 2 * ((ms.length + 2 : Nat) : Int) + 2 * ((bs.length + 2 : Nat) : Int) + 2 * ((arrW ms).length : Int) := r5.2
 have al := arrW_len ms
 have tl := tabW_len n bs
 have f0 := hR.read (i := 0) (by omega) (show (0 : Int) <= (ms.length : Int) /\ (ms.length : Int) <= 65535 by omega) (a := a + (12 + 2 * ((ms.length + 2 : Nat) : Int) + 2 * ((bs.length + 2 : Nat) : Int))) (by push_cast; omega)
 have e0 := hT.read (i := 0) (by omega) (show (0 : Int) <= (bs.length : Int) /\ (bs.length : Int) <= 65535 by omega) (a := a + (12 + 2 * ((ms.length + 2 : Nat) : Int) + 2 * ((bs.length + 2 : Nat) : Int) + 2 * ((arrW ms).length : Int))) (by push_cast; omega)
 have vf : wA (wsB W) (a + (12 + 2 * ((ms.length + 2 : Nat) : Int) + 2 * ((bs.length + 2 : Nat) : Int))) = (ms.length : Int) := f0.2
 have ve : wA (wsB W) (a + (12 + 2 * ((ms.length + 2 : Nat) : Int) + 2 * ((bs.length + 2 : Nat) : Int) + 2 * ((arrW ms).length : Int))) = (bs.length : Int) := e0.2
 have hnb : 0 <= (n : Int) * (bs.length : Int) := Int.mul_nonneg (by omega) (by omega)
 have hml := mLoop_read hR (by omega) hm (f := a + (12 + 2 * ((ms.length + 2 : Nat) : Int) + 2 * ((bs.length + 2 : Nat) : Int))) (by push_cast; omega) ms.length 0 (s + (ms.length : Int) + (bs.length : Int)) [] (by omega) (by omega)
 have hbl := bLoop_read hT (by omega) hbn hba (e := a + (12 + 2 * ((ms.length + 2 : Nat) : Int) + 2 * ((bs.length + 2 : Nat) : Int) + 2 * ((arrW ms).length : Int))) (by push_cast; omega) bs.length 0 (s + (ms.length : Int) + (bs.length : Int) + (ms.length : Int)) [] (by omega) (by omega)
 rw [List.drop_zero, List.nil_append] at hml hbl
 unfold marksX setX
 rw [r1.1, if_neg (by decide), v1, show a + 12 = 2 * ((o + 6 : Nat) : Int) from by omega, cM]
 simp only
 rw [lm, if_pos (by omega)]
 simp only
 rw [r2.1, if_neg (by decide), v2, show a + (12 + 2 * ((ms.length + 2 : Nat) : Int)) = 2 * ((o + 6 + (ms.length + 2) : Nat) : Int) from by omega, cB]
 simp only
 rw [lb, if_pos (by omega)]
 simp only
 unfold headX
 rw [r3.1, r4.1, r5.1, r0.1, v0, v3, v4, v5, f0.1, vf, e0.1, ve, lm, lb]
 rw [if_neg (by decide), if_neg (by decide), if_neg (by decide), if_neg (by decide), if_neg (fun h => h ⟨rfl, by omega⟩), if_neg (by decide), if_neg (fun h => h rfl), if_neg (by decide), if_neg (fun h => h rfl), Int.toNat_natCast]
 have eM : gsM ms = ms.map fun m => m.g := rfl
 have eB : gsB bs = bs.map fun b => b.g := rfl
 rw [eM, eB, hml]
 unfold endX
 simp only
 rw [hbl]
 simp only
 refine congrArg some (Prod.ext rfl (Prod.ext rfl ?_))
 show _ = _
 simp only
 omega
end Go.Proofs.YtjflgkadagkllaaGreat
