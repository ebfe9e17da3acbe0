/- The reference's w4, in place. -/
import Derived.Test.YtcpaaekghajalaaW15
namespace Go.Proofs.Ytcpaaekghajalaa
open Go Go.Eng Go.RowKit

def hd10 : List Int → Int
  | [] => 10
  | a :: _ => a
def w4c (p n c : Int) : Int := if p = n ∧ (p = 4 ∧ (c = 5 ∨ c = 8) ∨ p = 7 ∧ c = 8) then p else c
def w4F : Int → List Int → List Int
  | _, [] => []
  | p, c :: r => w4c p (hd10 r) c :: w4F (w4c p (hd10 r) c) r
theorem w4F_len : ∀ p xs, (w4F p xs).length = xs.length
  | _, [] => rfl
  | p, c :: r => by simp [w4F, w4F_len _ r]
theorem w4F_nth : ∀ (xs : List Int) (p : Int) (i : Nat), i < xs.length → nth (w4F p xs) i = w4c (if i = 0 then p else nth (w4F p xs) (i - 1)) (hd10 (xs.drop (i + 1))) (nth xs i)
  | [], p, i, h => by simp at h
  | c :: r, p, 0, _ => rfl
  | c :: r, p, i + 1, h => by
    simp only [w4F, nth_consS, List.drop_succ_cons, if_neg (Nat.succ_ne_zero i), Nat.add_sub_cancel]
    rw [w4F_nth r _ i (by simpa using h)]
    cases i with
    | zero => rfl
    | succ i => simp only [if_neg (Nat.succ_ne_zero i), nth_consS, Nat.add_sub_cancel]
theorem hd10_drop (xs : List Int) (i : Nat) (h : i < xs.length) : hd10 (xs.drop i) = nth xs i := by rw [drop_nth xs i h]; rfl
theorem w4c_10 (n c : Int) : w4c 10 n c = c := by simp [w4c]
theorem w4c_last (p c : Int) : w4c p 10 c = c := by
  unfold w4c
  split
  · rename_i h; obtain ⟨h1, h2 | h2⟩ := h <;> omega
  · rfl

structure W4St (xs : List Int) where
  i : Nat
  h0 : 1 ≤ i
  hi : i = 1 ∨ i + 1 ≤ xs.length
  row : List Int
  hr : row.length = xs.length
  h1 : ∀ j, j < i → j < xs.length → nth row j = nth (w4F 10 xs) j
  h2 : ∀ j, i ≤ j → j < xs.length → nth row j = nth xs j
def W4St.start (xs : List Int) : W4St xs := ⟨1, by omega, .inl rfl, xs, rfl, fun j h hl => by
  have : j = 0 := by omega
  subst this
  rw [w4F_nth xs 10 0 hl, if_pos rfl, w4c_10], fun _ _ _ => rfl⟩
def W4St.keep {xs : List Int} (s : W4St xs) (h : s.i + 1 < xs.length) (hn : nth (w4F 10 xs) s.i = nth xs s.i) : W4St xs where
  i := s.i + 1
  h0 := by omega
  hi := .inr (by omega)
  row := s.row
  hr := s.hr
  h1 j hj hl := by
    rcases Nat.lt_or_ge j s.i with hlt | hge
    · exact s.h1 j hlt hl
    · have : j = s.i := by omega
      subst this
      rw [s.h2 _ (Nat.le_refl _) hl, hn]
  h2 j h3 h4 := s.h2 j (by omega) h4
def W4St.put {xs : List Int} (s : W4St xs) (h : s.i + 1 < xs.length) (y : Int) (hy : nth (w4F 10 xs) s.i = y) : W4St xs where
  i := s.i + 1
  h0 := by omega
  hi := .inr (by omega)
  row := s.row.set s.i y
  hr := by simp [s.hr]
  h1 j hj hl := by
    rw [nth_set _ _ _ _ (by rw [s.hr]; omega)]
    split
    · rename_i e; rw [e, hy]
    · exact s.h1 j (by omega) hl
  h2 j h3 h4 := by
    rw [nth_set _ _ _ _ (by rw [s.hr]; omega), if_neg (by omega)]
    exact s.h2 j (by omega) h4
theorem W4St.all {xs : List Int} (s : W4St xs) (h : ¬ s.i + 1 < xs.length) : s.row = w4F 10 xs := by
  refine nth_ext (by rw [s.hr, w4F_len]) fun j hj => ?_
  rw [s.hr] at hj
  rcases Nat.lt_or_ge j s.i with hlt | hge
  · exact s.h1 j hlt hj
  · rw [s.h2 j hge hj, w4F_nth xs 10 j hj, List.drop_eq_nil_of_le (by omega)]
    exact (w4c_last _ _).symm

set_option maxHeartbeats 1000000 in
theorem w4_s (xs : List Int) (hl : xs.length ≤ 1000000) : LCall Try.prog ⟨0, [], [ow xs], [], []⟩ 41 [.sl 0] (fun st' s => st'.ch = [ow (w4F 10 xs)] ∧ s = .tup []) := by
  have hlen : (w4F 10 xs).length = xs.length := w4F_len _ _
  refine lcall_exec (cf := cf) cfok (fn := Try.f41) Try.func41 rfl _ _ [ow (w4F 10 xs)] (.tup []) rfl rfl (by simp [svOkL, svOk]) rfl ⟨⟨by omega, rfl⟩, trivial⟩ rfl rfl ?_
  refine ⟨W4St xs, fun s => ⟨58, [⟨0, [], .sl 0⟩, ⟨2, [], .v (.int .i64 s.i)⟩], [ow s.row], [], dropL nats 1⟩, fun s => xs.length - s.i, ⟨[0], W4St.start xs, ?_⟩, fun s => ?_⟩
  · exact And.intro (And.intro rfl (And.intro rfl trivial)) (And.intro rfl trivial)
  have hs0 := s.h0
  have hsi := s.hi
  have hsr := s.hr
  have hib : s.i ≤ 1000000 := by omega
  have ep : IntKind.i64.wrap ((s.i : Int) - 1) = ((s.i - 1 : Nat) : Int) := i64_pred s.i (by omega) (by omega)
  have es : IntKind.i64.wrap ((s.i : Int) + 1) = ((s.i + 1 : Nat) : Int) := i64_succ s.i (by omega)
  refine And.intro (fun hlt => ?_) (fun hge => ?_)
  · have hlt : s.i + 1 < xs.length := by
      have hlt : IntKind.i64.wrap ((s.i : Int) + 1) < (s.row.length : Nat) := by simpa using hlt
      rw [es] at hlt; omega
    have hn := w4F_nth xs 10 s.i (by omega)
    rw [if_neg (by omega), hd10_drop xs (s.i + 1) hlt, ← s.h1 (s.i - 1) (by omega) (by omega), ← s.h2 (s.i + 1) (by omega) hlt] at hn
    have hx := s.h2 s.i (Nat.le_refl _) (by omega)
    refine Or.inl ⟨by kernel_rfl, ?_⟩
    refine And.intro (by rw [ep]; exact ⟨by omega, by omega⟩) ?_
    refine And.intro (by rw [es]; exact ⟨by omega, by omega⟩) ?_
    refine And.intro (by first | exact fun _ _ => ⟨by omega, by omega⟩ | exact fun _ => ⟨by omega, by omega⟩ | exact fun _ _ _ => ⟨by omega, by omega⟩) ?_
    refine And.intro (by first | exact fun _ _ _ => ⟨by omega, by omega⟩ | exact fun _ _ => ⟨by omega, by omega⟩ | exact fun _ => ⟨by omega, by omega⟩) ?_
    refine And.intro (by first | exact fun _ _ _ => ⟨by omega, by omega⟩ | exact fun _ _ => ⟨by omega, by omega⟩ | exact fun _ => ⟨by omega, by omega⟩) ?_
    have ea : nth s.row (IntKind.i64.wrap ((s.i : Int) - 1)).toNat = nth s.row (s.i - 1) := by rw [ep]; rfl
    have eb : nth s.row (IntKind.i64.wrap ((s.i : Int) + 1)).toNat = nth s.row (s.i + 1) := by rw [es]; rfl
    refine And.intro (fun hc => ?_) (fun hc => ?_)
    · have hc : nth s.row (s.i - 1) = nth s.row (s.i + 1) ∧ (nth s.row (s.i - 1) = 4 ∧ (nth s.row s.i = 5 ∨ nth s.row s.i = 8) ∨ nth s.row (s.i - 1) = 7 ∧ nth s.row s.i = 8) := by
        simpa [ea, eb] using hc
      rw [hx] at hc
      have hg : nth (w4F 10 xs) s.i = nth s.row (s.i - 1) := by rw [hn, w4c, if_pos hc]
      refine And.intro ⟨by omega, by omega⟩ ?_
      refine ⟨_, rfl, rfl, ?_⟩
      exact ⟨[0], s.put hlt _ hg, And.intro (And.intro rfl (And.intro (sv_i64 es) trivial)) (And.intro (by show ow (s.row.set (s.i : Int).toNat (nth s.row (IntKind.i64.wrap ((s.i : Int) - 1)).toNat)) = ow (s.row.set s.i (nth s.row (s.i - 1))); rw [ea]; rfl) trivial), by show _ - (s.i + 1) < _ - s.i; omega⟩
    · have hc : ¬ (nth s.row (s.i - 1) = nth s.row (s.i + 1) ∧ (nth s.row (s.i - 1) = 4 ∧ (nth s.row s.i = 5 ∨ nth s.row s.i = 8) ∨ nth s.row (s.i - 1) = 7 ∧ nth s.row s.i = 8)) := by
        intro hh
        have hz : ∀ (b : Bool), b = false → b = true → False := by intro b h1 h2; rw [h1] at h2; cases h2
        refine hz _ hc ?_
        simpa [ea, eb] using hh
      rw [hx] at hc
      have hg : nth (w4F 10 xs) s.i = nth xs s.i := by rw [hn, w4c, if_neg hc]
      exact ⟨[0], s.keep hlt hg, And.intro (And.intro rfl (And.intro (sv_i64 es) trivial)) (And.intro rfl trivial), by show _ - (s.i + 1) < _ - s.i; omega⟩
  · have hge : ¬ s.i + 1 < xs.length := by
      have hge : ¬ IntKind.i64.wrap ((s.i : Int) + 1) < (s.row.length : Nat) := by simpa using hge
      rw [es] at hge; omega
    have hrow := s.all hge
    exact ⟨[0], rfl, rfl, rfl, And.intro (by show ow s.row = ow (w4F 10 xs); rw [hrow]) trivial, rfl⟩
end Go.Proofs.Ytcpaaekghajalaa
