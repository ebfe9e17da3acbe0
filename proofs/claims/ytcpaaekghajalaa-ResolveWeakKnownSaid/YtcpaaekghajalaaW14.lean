/- The reference's w1, w2 and w7: what they make of a row, in place. -/
import Derived.Test.YtcpaaekghajalaaW13
namespace Go.Proofs.Ytcpaaekghajalaa
open Go Go.Eng Go.RowKit

/-- a row is gone over, each class by what stood ahead -/
def scan (g t : Int → Int → Int) : Int → List Int → List Int
  | _, [] => []
  | s, c :: r => g s c :: scan g t (t s c) r
theorem scan_len (g t : Int → Int → Int) : ∀ s xs, (scan g t s xs).length = xs.length
  | _, [] => rfl
  | s, c :: r => by simp [scan, scan_len g t _ r]
theorem scan_nth (g t : Int → Int → Int) : ∀ s xs i, i < xs.length → nth (scan g t s xs) i = g ((xs.take i).foldl t s) (nth xs i)
  | s, [], i, h => by simp at h
  | s, c :: r, 0, _ => rfl
  | s, c :: r, i + 1, h => by simp only [scan, nth_consS, List.take_succ_cons, List.foldl_cons]; exact scan_nth g t _ r i (by simpa using h)
theorem fold_succ (t : Int → Int → Int) (s : Int) (xs : List Int) (i : Nat) (h : i < xs.length) : (xs.take (i + 1)).foldl t s = t ((xs.take i).foldl t s) (nth xs i) := by
  rw [take_succ_nth xs i h, List.foldl_append]; rfl

/-- a row on the way from xs to ys -/
structure InPl (xs ys : List Int) where
  i : Nat
  hi : i ≤ xs.length
  row : List Int
  hr : row.length = xs.length
  h1 : ∀ j, j < i → nth row j = nth ys j
  h2 : ∀ j, i ≤ j → j < xs.length → nth row j = nth xs j
def InPl.start (xs ys : List Int) : InPl xs ys := ⟨0, by omega, xs, rfl, fun j h => by omega, fun _ _ _ => rfl⟩
def InPl.keep {xs ys : List Int} (s : InPl xs ys) (h : s.i < xs.length) (hn : nth ys s.i = nth xs s.i) : InPl xs ys where
  i := s.i + 1
  hi := h
  row := s.row
  hr := s.hr
  h1 j hj := by
    rcases Nat.lt_or_ge j s.i with hlt | hge
    · exact s.h1 j hlt
    · have : j = s.i := by omega
      subst this
      rw [s.h2 _ (Nat.le_refl _) h, hn]
  h2 j h3 h4 := s.h2 j (by omega) h4
def InPl.put {xs ys : List Int} (s : InPl xs ys) (h : s.i < xs.length) (y : Int) (hy : nth ys s.i = y) : InPl xs ys where
  i := s.i + 1
  hi := h
  row := s.row.set s.i y
  hr := by simp [s.hr]
  h1 j hj := by
    rw [nth_set _ _ _ _ (by rw [s.hr]; exact h)]
    split
    · rename_i e; rw [e, hy]
    · exact s.h1 j (by omega)
  h2 j h3 h4 := by
    rw [nth_set _ _ _ _ (by rw [s.hr]; exact h), if_neg (by omega)]
    exact s.h2 j (by omega) h4
theorem InPl.all {xs ys : List Int} (s : InPl xs ys) (h : s.i = xs.length) (hl : ys.length = xs.length) : s.row = ys := nth_ext (by rw [s.hr, hl]) (fun j hj => s.h1 j (by rw [s.hr] at hj; omega))

def isoF (c : Int) : Bool := decide (c ≥ 20) && decide (c ≤ 23)
theorem isolate_c (c : Int) (w : World) : Calls Try.prog 45 #[.int .u8 c] w fun e w' => e = .returned (.bool (isoF c)) ∧ Below w.heap.size w w' := by
  refine calls_exec (cf := cf) cfok (fn := Try.f45) Try.func45 rfl [.v (.int .u8 c)] [] (ρ := fun _ => undef) (· < w.heap.size) rfl rfl rfl (by simp [svOkL, svOk]) (memNil fun _ h => h) ?_
  exact fun ρ S w' hi => ⟨rfl, hi.below⟩
theorem isolate2_c (c : Int) (w : World) : Calls Try.prog 46 #[.int .u8 c] w fun e w' => e = .returned (.bool (isoF c)) ∧ Below w.heap.size w w' := by
  refine calls_exec (cf := cf) cfok (fn := Try.f46) Try.func46 rfl [.v (.int .u8 c)] [] (ρ := fun _ => undef) (· < w.heap.size) rfl rfl rfl (by simp [svOkL, svOk]) (memNil fun _ h => h) ?_
  exact fun ρ S w' hi => ⟨rfl, hi.below⟩

abbrev ow (xs : List Int) : Chunk := .own 23 Int inferInstance 1 cE xs
def w1g (b c : Int) : Int := if c = 9 then b else c
def w1t (b c : Int) : Int := if isoF (w1g b c) then 14 else w1g b c
def w1F (s : Int) (xs : List Int) : List Int := scan w1g w1t s xs

theorem w1_s (xs : List Int) (sos : Int) (hl : xs.length ≤ 1000000) : LCall Try.prog ⟨0, [], [ow xs], [], []⟩ 39 [.sl 0, .v (.int .u8 sos)] (fun st' s => st'.ch = [ow (w1F sos xs)] ∧ s = .tup []) := by
  have hlen : (w1F sos xs).length = xs.length := scan_len _ _ _ _
  refine lcall_exec (cf := cf) cfok (fn := Try.f39) Try.func39 rfl _ _ [ow (w1F sos xs)] (.tup []) rfl rfl (by simp [svOkL, svOk]) rfl ⟨⟨by omega, rfl⟩, trivial⟩ rfl rfl ?_
  refine ⟨InPl xs (w1F sos xs), fun s => ⟨28, [⟨0, [], .sl 0⟩, ⟨4, [], .v (.int .u8 ((xs.take s.i).foldl w1t sos))⟩, ⟨5, [], .v (.int .i64 s.i)⟩], [ow s.row], [], dropL nats 1⟩, fun s => xs.length - s.i, ⟨[0], InPl.start _ _, ?_⟩, fun s => ?_⟩
  · exact And.intro (And.intro rfl (And.intro rfl (And.intro rfl trivial))) (And.intro rfl trivial)
  have hsi := s.hi
  have hsr := s.hr
  refine And.intro (fun hlt => ?_) (fun hge => ?_)
  · have hlt : s.i < xs.length := by have : s.i < s.row.length := by simpa using hlt
                                     omega
    have hn : nth (w1F sos xs) s.i = w1g ((xs.take s.i).foldl w1t sos) (nth xs s.i) := scan_nth _ _ _ _ _ hlt
    have hf := fold_succ w1t sos xs s.i hlt
    have hx := s.h2 s.i (Nat.le_refl _) hlt
    refine And.intro ⟨by omega, by omega⟩ ?_
    refine And.intro (fun h9 => ?_) (fun h9 => ?_)
    · have h9 : nth xs s.i = 9 := by have : nth s.row s.i = 9 := by simpa using h9
                                     rw [← hx]; exact this
      have hg : w1g ((xs.take s.i).foldl w1t sos) (nth xs s.i) = (xs.take s.i).foldl w1t sos := by simp [w1g, h9]
      rw [hg] at hn
      have hrow : nth (s.row.set s.i ((xs.take s.i).foldl w1t sos)) s.i = (xs.take s.i).foldl w1t sos := by rw [nth_set _ _ _ _ (by omega), if_pos rfl]
      refine And.intro ⟨by omega, by omega⟩ ?_
      refine ⟨_, rfl, rfl, ?_⟩
      refine And.intro ⟨by omega, by show (s.i : Int) < ((s.row.set s.i ((xs.take s.i).foldl w1t sos)).length : Nat); simp; omega⟩ ?_
      refine Or.inl ⟨_, fun ρ S w' hm => isolate2_c _ _, ?_⟩
      have hr2 : nth (s.row.set s.i ((xs.take s.i).foldl w1t sos)) s.i = w1g ((xs.take s.i).foldl w1t sos) (nth xs s.i) := by rw [hrow, hg]
      refine And.intro (fun hi => ?_) (fun hi => ?_)
      · have hi : isoF (nth (s.row.set s.i ((xs.take s.i).foldl w1t sos)) s.i) = true := hi
        rw [hr2] at hi
        exact ⟨[0], s.put hlt _ hn, And.intro (And.intro rfl (And.intro (svu (by show (14 : Int) = _; rw [show (s.put hlt _ hn).i = s.i + 1 from rfl, hf, w1t, if_pos hi])) (And.intro (sv_i64 (i64_succ s.i (by omega))) trivial))) (And.intro rfl trivial), by show _ - (s.i + 1) < _ - s.i; omega⟩
      · have hi : isoF (nth (s.row.set s.i ((xs.take s.i).foldl w1t sos)) s.i) = false := hi
        rw [hr2] at hi
        exact ⟨[0], s.put hlt _ hn, And.intro (And.intro rfl (And.intro (svu (by show nth (s.row.set s.i ((xs.take s.i).foldl w1t sos)) s.i = _; rw [show (s.put hlt _ hn).i = s.i + 1 from rfl, hf, w1t, if_neg (by rw [hi]; simp), hr2])) (And.intro (sv_i64 (i64_succ s.i (by omega))) trivial))) (And.intro rfl trivial), by show _ - (s.i + 1) < _ - s.i; omega⟩
    · have h9 : ¬ nth xs s.i = 9 := by have : ¬ nth s.row s.i = 9 := by simpa using h9
                                       rw [← hx]; exact this
      have hg : w1g ((xs.take s.i).foldl w1t sos) (nth xs s.i) = nth xs s.i := by simp [w1g, h9]
      rw [hg] at hn
      refine And.intro ⟨by omega, by omega⟩ ?_
      refine Or.inl ⟨_, fun ρ S w' hm => isolate2_c _ _, ?_⟩
      refine And.intro (fun hi => ?_) (fun hi => ?_)
      · have hi : isoF (nth s.row s.i) = true := hi
        rw [hx] at hi
        exact ⟨[0], s.keep hlt hn, And.intro (And.intro rfl (And.intro (svu (by show (14 : Int) = _; rw [show (s.keep hlt hn).i = s.i + 1 from rfl, hf, w1t, if_pos (by rw [hg]; exact hi)])) (And.intro (sv_i64 (i64_succ s.i (by omega))) trivial))) (And.intro rfl trivial), by show _ - (s.i + 1) < _ - s.i; omega⟩
      · have hi : isoF (nth s.row s.i) = false := hi
        rw [hx] at hi
        exact ⟨[0], s.keep hlt hn, And.intro (And.intro rfl (And.intro (svu (by show nth s.row s.i = _; rw [show (s.keep hlt hn).i = s.i + 1 from rfl, hf, w1t, if_neg (by rw [hg, hi]; simp), hx, hg])) (And.intro (sv_i64 (i64_succ s.i (by omega))) trivial))) (And.intro rfl trivial), by show _ - (s.i + 1) < _ - s.i; omega⟩
  · have hge : s.i = xs.length := by have : ¬ s.i < s.row.length := by simpa using hge
                                     omega
    have hrow := s.all hge hlen
    exact ⟨[0], rfl, rfl, rfl, And.intro (by show ow s.row = ow (w1F sos xs); rw [hrow]) trivial, rfl⟩
end Go.Proofs.Ytcpaaekghajalaa
