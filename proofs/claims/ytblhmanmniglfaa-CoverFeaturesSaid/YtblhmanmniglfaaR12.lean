/- What is put is read again: plain Lean. -/
import Derived.Test.YtblhmanmniglfaaR11
namespace Go.Proofs.Ytblhmanmniglfaa
open Go Go.Eng Go.RowKit

theorem or_bytes (x y : Nat) (hy : y < 256) : x * 256 ||| y = x * 256 + y := by
  rw [Nat.mul_comm]
  exact (Nat.two_pow_add_eq_or_of_lt (i := 8) hy x).symm
theorem or32 (x y : Nat) (hx : x < 256) (hy : y < 256) : bitsV .or .u32 ((x * 256 : Nat) : Int) ((y : Nat) : Int) = ((x * 256 + y : Nat) : Int) := by
  show IntKind.u32.wrap (((BitVec.ofInt 32 ((x * 256 : Nat) : Int)) ||| (BitVec.ofInt 32 ((y : Nat) : Int))).toNat : Int) = _
  rw [BitVec.toNat_or, BitVec.ofInt_natCast, BitVec.ofInt_natCast, BitVec.toNat_ofNat, BitVec.toNat_ofNat, Nat.mod_eq_of_lt (by omega), Nat.mod_eq_of_lt (by omega), or_bytes x y hy, IntKind.wrap_u32]
  omega
theorem or16 (x y : Nat) (hx : x < 256) (hy : y < 256) : bitsV .or .u16 ((x * 256 : Nat) : Int) ((y : Nat) : Int) = ((x * 256 + y : Nat) : Int) := by
  show IntKind.u16.wrap (((BitVec.ofInt 16 ((x * 256 : Nat) : Int)) ||| (BitVec.ofInt 16 ((y : Nat) : Int))).toNat : Int) = _
  rw [BitVec.toNat_or, BitVec.ofInt_natCast, BitVec.ofInt_natCast, BitVec.toNat_ofNat, BitVec.toNat_ofNat, Nat.mod_eq_of_lt (by omega), Nat.mod_eq_of_lt (by omega), or_bytes x y hy, IntKind.wrap_u16]
  omega
theorem numS_byte (x y : Nat) (hx : x < 256) (hy : y < 256) : numS (x : Int) (y : Int) = ((x * 256 + y : Nat) : Int) := by
  unfold numS
  have e : shlV .u32 (x : Int) 8 = ((x * 256 : Nat) : Int) := by
    show IntKind.u32.wrap ((x : Int) * 2 ^ 8) = _
    rw [IntKind.wrap_u32]; omega
  rw [e, show IntKind.u32.wrap (y : Int) = (y : Int) from by rw [IntKind.wrap_u32]; omega]
  exact or32 x y hx hy
theorem numS_zero (y : Nat) (hy : y < 256) : numS 0 (y : Int) = (y : Int) := by
  have := numS_byte 0 y (by omega) hy
  simpa using this
theorem wd_val (d : List Int) (p : Nat) (x y : Nat) (h1 : nth d p = (x : Int)) (h2 : nth d (p + 1) = (y : Int)) (hx : x < 256) (hy : y < 256) : wd d p = ((x * 256 + y : Nat) : Int) := by
  unfold wd
  rw [h1, h2, numS_zero x hx, numS_byte x y hx hy, IntKind.wrap_u16]
  omega
theorem wo_val (d : List Int) (p : Nat) (x y : Nat) (h1 : nth d p = (x : Int)) (h2 : nth d (p + 1) = (y : Int)) (hx : x < 256) (hy : y < 256) : wo d p = ((x * 256 + y : Nat) : Int) := by
  unfold wo wordOf
  show bitsV .or .u16 (shlV .u16 (IntKind.u16.wrap (nth d p)) 8) (IntKind.u16.wrap (nth d (p + 1))) = _
  have e : shlV .u16 (IntKind.u16.wrap (nth d p)) 8 = ((x * 256 : Nat) : Int) := by
    show IntKind.u16.wrap (IntKind.u16.wrap (nth d p) * 2 ^ 8) = _
    rw [h1, IntKind.wrap_u16, IntKind.wrap_u16]; omega
  rw [e, h2, show IntKind.u16.wrap (y : Int) = (y : Int) from by rw [IntKind.wrap_u16]; omega]
  exact or16 x y hx hy
theorem tw_val (n : Nat) (hn : n ≤ 65535) : tw (n : Int) = [((n / 256 : Nat) : Int), ((n % 256 : Nat) : Int)] := by
  unfold tw
  have e : shrV .i64 (n : Int) 8 = ((n / 256 : Nat) : Int) := by
    show (n : Int).fdiv (2 ^ 8) = _
    rw [Int.fdiv_eq_ediv_of_nonneg _ (by decide)]
    omega
  rw [e, IntKind.wrap_u8, IntKind.wrap_u8]
  congr 1
  omega
theorem nth_app_r {α : Type} [Inhabited α] (a b : List α) (p : Nat) : nth (a ++ b) (a.length + p) = nth b p := by
  unfold nth
  rw [List.getD_eq_getElem?_getD, List.getD_eq_getElem?_getD, List.getElem?_append_right (by omega), Nat.add_sub_cancel_left]
theorem nth_app_l {α : Type} [Inhabited α] (a b : List α) (p : Nat) (h : p < a.length) : nth (a ++ b) p = nth a p := by
  unfold nth
  rw [List.getD_eq_getElem?_getD, List.getD_eq_getElem?_getD, List.getElem?_append_left h]
/-- a number put somewhere is read there -/
theorem wd_tw (a b : List Int) (n : Nat) (hn : n ≤ 65535) (p : Nat) (hp : p = a.length) : wd (a ++ (tw (n : Int) ++ b)) p = (n : Int) := by
  subst hp
  have h1 : nth (a ++ (tw (n : Int) ++ b)) a.length = ((n / 256 : Nat) : Int) := by
    have := nth_app_r a (tw (n : Int) ++ b) 0
    rw [Nat.add_zero] at this
    rw [this, tw_val n hn]; rfl
  have h2 : nth (a ++ (tw (n : Int) ++ b)) (a.length + 1) = ((n % 256 : Nat) : Int) := by
    rw [nth_app_r a (tw (n : Int) ++ b) 1, tw_val n hn]; rfl
  rw [wd_val _ _ _ _ h1 h2 (by omega) (by omega)]
  omega
theorem wo_tw (a b : List Int) (n : Nat) (hn : n ≤ 65535) (p : Nat) (hp : p = a.length) : wo (a ++ (tw (n : Int) ++ b)) p = (n : Int) := by
  subst hp
  have h1 : nth (a ++ (tw (n : Int) ++ b)) a.length = ((n / 256 : Nat) : Int) := by
    have := nth_app_r a (tw (n : Int) ++ b) 0
    rw [Nat.add_zero] at this
    rw [this, tw_val n hn]; rfl
  have h2 : nth (a ++ (tw (n : Int) ++ b)) (a.length + 1) = ((n % 256 : Nat) : Int) := by
    rw [nth_app_r a (tw (n : Int) ++ b) 1, tw_val n hn]; rfl
  rw [wo_val _ _ _ _ h1 h2 (by omega) (by omega)]
  omega

/-! coverages -/
theorem pcL_pre (l : List Int) (i : Nat) : ∀ m, i ≤ m → ∃ r, pcL l m = pcL l i ++ r := by
  intro m h
  induction m with
  | zero => exact ⟨[], by rw [show i = 0 by omega, List.append_nil]⟩
  | succ m ih =>
    by_cases e : i = m + 1
    · exact ⟨[], by rw [e, List.append_nil]⟩
    · obtain ⟨r, hr⟩ := ih (by omega)
      exact ⟨r ++ tw (IntKind.i64.wrap (nth l m)), by show pcL l m ++ _ = _; rw [hr, List.append_assoc]⟩
theorem pcL_word (l : List Int) (i : Nat) (hi : i < l.length) (h : 0 ≤ nth l i ∧ nth l i ≤ 65535) : wo (pcL l l.length) (4 + 2 * i) = nth l i := by
  obtain ⟨r, hr⟩ := pcL_pre l (i + 1) l.length hi
  have e : IntKind.i64.wrap (nth l i) = (((nth l i).toNat : Nat) : Int) := by rw [i64_id _ (by omega) (by omega)]; omega
  rw [hr, show pcL l (i + 1) = pcL l i ++ tw (IntKind.i64.wrap (nth l i)) from rfl, List.append_assoc, e, wo_tw _ _ _ (by omega) _ (pcL_len l i).symm]
  omega
theorem nth_memI {l : List Int} {i : Nat} (h : i < l.length) : nth l i ∈ l := by
  unfold nth
  rw [List.getD_eq_getElem?_getD, List.getElem?_eq_getElem h]
  exact List.getElem_mem h
theorem cov_put (l : List Int) (h1 : 0 < l.length) (h2 : l.length ≤ 65535) (hr : ∀ x ∈ l, 0 ≤ x ∧ x ≤ 65535) (hup : ∀ i, i < l.length → upF l i = true) : covX (pcL l l.length) 0 65536 = some l := by
  obtain ⟨r, hr0⟩ := pcL_pre l 0 l.length (Nat.zero_le _)
  have hlen := pcL_len l l.length
  have w0 : wd (pcL l l.length) 0 = 1 := by
    rw [hr0]
    exact wd_val _ 0 0 1 rfl rfl (by decide) (by decide)
  have w2 : wd (pcL l l.length) 2 = (l.length : Int) := by
    rw [hr0, show pcL l 0 = [0, 1] ++ tw (l.length : Int) from rfl, List.append_assoc]
    exact wd_tw _ _ _ h2 _ rfl
  have hrow : rowO (pcL l l.length) 4 l.length = l := by
    refine nth_extI (rowO_len _ _ _) fun j hj => ?_
    rw [rowO_len] at hj
    rw [rowO_nth _ _ _ _ hj]
    exact pcL_word l j hj (hr _ (nth_memI hj))
  unfold covX
  rw [if_neg (by rw [outR_iff.2 ⟨by omega, by omega, by omega⟩]; decide)]
  simp only [Int.toNat_zero, List.drop_zero]
  rw [if_pos w0, w2, if_neg (by rw [outR_iff.2 ⟨by omega, by omega, by omega⟩]; decide)]
  unfold cov1
  rw [Int.toNat_natCast, hrow, if_pos]
  · unfold finC; rw [if_pos ⟨h1, h2⟩]
  · intro i hi
    have := hup i hi
    have h3 := (hr _ (nth_memI hi)).2
    unfold upF at this
    unfold ok1
    rw [decide_eq_false (by omega : ¬ nth l i ≥ 65536), Bool.false_or]
    exact this
end Go.Proofs.Ytblhmanmniglfaa
