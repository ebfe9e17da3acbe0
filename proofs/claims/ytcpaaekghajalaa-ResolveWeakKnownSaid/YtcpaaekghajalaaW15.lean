/- The reference's w2 (and W3) and w7, in place. -/
import Derived.Test.YtcpaaekghajalaaW14
namespace Go.Proofs.Ytcpaaekghajalaa
open Go Go.Eng Go.RowKit

def w7g (s c : Int) : Int := if c = 4 ∧ s = 1 then 1 else c
def w7t (s c : Int) : Int := if c = 1 ∨ c = 2 then c else s
def w7F (s : Int) (xs : List Int) : List Int := scan w7g w7t s xs

theorem w7_s (xs : List Int) (sos : Int) (hl : xs.length ≤ 1000000) : LCall Try.prog ⟨0, [], [ow xs], [], []⟩ 43 [.sl 0, .v (.int .u8 sos)] (fun st' s => st'.ch = [ow (w7F sos xs)] ∧ s = .tup []) := by
  have hlen : (w7F sos xs).length = xs.length := scan_len _ _ _ _
  refine lcall_exec (cf := cf) cfok (fn := Try.f43) Try.func43 rfl _ _ [ow (w7F sos xs)] (.tup []) rfl rfl (by simp [svOkL, svOk]) rfl ⟨⟨by omega, rfl⟩, trivial⟩ rfl rfl ?_
  refine ⟨InPl xs (w7F sos xs), fun s => ⟨31, [⟨0, [], .sl 0⟩, ⟨4, [], .v (.int .u8 ((xs.take s.i).foldl w7t sos))⟩, ⟨5, [], .v (.int .i64 s.i)⟩], [ow s.row], [], dropL nats 1⟩, fun s => xs.length - s.i, ⟨[0], InPl.start _ _, ?_⟩, fun s => ?_⟩
  · exact And.intro (And.intro rfl (And.intro rfl (And.intro rfl trivial))) (And.intro rfl trivial)
  have hsi := s.hi
  have hsr := s.hr
  refine And.intro (fun hlt => ?_) (fun hge => ?_)
  · have hlt : s.i < xs.length := by have : s.i < s.row.length := by simpa using hlt
                                     omega
    have hn : nth (w7F sos xs) s.i = w7g ((xs.take s.i).foldl w7t sos) (nth xs s.i) := scan_nth _ _ _ _ _ hlt
    have hf := fold_succ w7t sos xs s.i hlt
    have hx := s.h2 s.i (Nat.le_refl _) hlt
    have fin : ∀ (s' : InPl xs (w7F sos xs)) (z : Int), s'.i = s.i + 1 → z = w7t ((xs.take s.i).foldl w7t sos) (nth xs s.i) → SV.v (.int .u8 z) = SV.v (.int .u8 ((xs.take s'.i).foldl w7t sos)) ∧ SV.v (.int .i64 (IntKind.i64.wrap ((s.i : Int) + 1))) = SV.v (.int .i64 s'.i) := fun s' z h1 h2 => by
      rw [h1, h2, hf]; exact ⟨rfl, sv_i64 (i64_succ s.i (by omega))⟩
    refine And.intro ⟨by omega, by omega⟩ ?_
    by_cases e12 : nth xs s.i = 1 ∨ nth xs s.i = 2
    · have hg : nth (w7F sos xs) s.i = nth xs s.i := by rw [hn]; rcases e12 with h | h <;> simp [w7g, h]
      obtain ⟨f1, f2⟩ := fin (s.keep hlt hg) (nth s.row s.i) rfl (by rw [hx, w7t, if_pos e12])
      by_cases e1 : nth s.row s.i = 1
      · refine And.intro (fun _ => ?_) (fun h => absurd h (by simp [e1]))
        refine And.intro (fun _ => ?_) (fun h => absurd h (by simp [e1]))
        refine And.intro ⟨by omega, by omega⟩ ?_
        exact ⟨[0], s.keep hlt hg, And.intro (And.intro rfl (And.intro f1 (And.intro f2 trivial))) (And.intro rfl trivial), by show _ - (s.i + 1) < _ - s.i; omega⟩
      · have e2 : nth s.row s.i = 2 := by rw [hx] at e1 ⊢; exact e12.resolve_left e1
        refine And.intro (fun h => absurd h (by simp [e1])) (fun _ => ?_)
        refine And.intro (fun _ => ?_) (fun h => absurd h (by simp [e2]))
        refine And.intro ⟨by omega, by omega⟩ ?_
        exact ⟨[0], s.keep hlt hg, And.intro (And.intro rfl (And.intro f1 (And.intro f2 trivial))) (And.intro rfl trivial), by show _ - (s.i + 1) < _ - s.i; omega⟩
    · have e1 : ¬ nth s.row s.i = 1 := by rw [hx]; exact fun h => e12 (.inl h)
      have e2 : ¬ nth s.row s.i = 2 := by rw [hx]; exact fun h => e12 (.inr h)
      have hT : ((xs.take s.i).foldl w7t sos) = w7t ((xs.take s.i).foldl w7t sos) (nth xs s.i) := by rw [w7t, if_neg e12]
      refine And.intro (fun h => absurd h (by simp [e1])) (fun _ => ?_)
      refine And.intro (fun h => absurd h (by simp [e2])) (fun _ => ?_)
      refine And.intro (fun h4 => ?_) (fun h4 => ?_)
      · have h4 : nth s.row s.i = 4 := by simpa using h4
        rw [hx] at h4
        refine And.intro (fun hs => ?_) (fun hs => ?_)
        · have hs : (xs.take s.i).foldl w7t sos = 1 := by simpa using hs
          have hg : nth (w7F sos xs) s.i = 1 := by rw [hn]; simp [w7g, h4, hs]
          obtain ⟨f1, f2⟩ := fin (s.put hlt _ hg) _ rfl hT
          refine And.intro ⟨by omega, by omega⟩ ?_
          refine ⟨_, rfl, rfl, ?_⟩
          exact ⟨[0], s.put hlt _ hg, And.intro (And.intro rfl (And.intro f1 (And.intro f2 trivial))) (And.intro rfl trivial), by show _ - (s.i + 1) < _ - s.i; omega⟩
        · have hs : ¬ (xs.take s.i).foldl w7t sos = 1 := by simpa using hs
          have hg : nth (w7F sos xs) s.i = nth xs s.i := by rw [hn]; simp [w7g, hs]
          obtain ⟨f1, f2⟩ := fin (s.keep hlt hg) _ rfl hT
          exact ⟨[0], s.keep hlt hg, And.intro (And.intro rfl (And.intro f1 (And.intro f2 trivial))) (And.intro rfl trivial), by show _ - (s.i + 1) < _ - s.i; omega⟩
      · have h4 : ¬ nth s.row s.i = 4 := by simpa using h4
        rw [hx] at h4
        have hg : nth (w7F sos xs) s.i = nth xs s.i := by rw [hn]; simp [w7g, h4]
        obtain ⟨f1, f2⟩ := fin (s.keep hlt hg) _ rfl hT
        exact ⟨[0], s.keep hlt hg, And.intro (And.intro rfl (And.intro f1 (And.intro f2 trivial))) (And.intro rfl trivial), by show _ - (s.i + 1) < _ - s.i; omega⟩
  · have hge : s.i = xs.length := by have : ¬ s.i < s.row.length := by simpa using hge
                                     omega
    have hrow := s.all hge hlen
    exact ⟨[0], rfl, rfl, rfl, And.intro (by show ow s.row = ow (w7F sos xs); rw [hrow]) trivial, rfl⟩

def w2g (s c : Int) : Int := if c = 4 ∧ s = 3 then 7 else c
def w2t (s c : Int) : Int := if c = 1 ∨ c = 2 ∨ c = 3 then c else s
def w3f (c : Int) : Int := if c = 3 then 2 else c
def w2F (s : Int) (xs : List Int) : List Int := (scan w2g w2t s xs).map w3f
theorem map_nth (f : Int → Int) (xs : List Int) (i : Nat) (h : i < xs.length) : nth (xs.map f) i = f (nth xs i) := by
  rw [nth_eq _ _ (by simpa using h), nth_eq _ _ h]; simp

theorem w2_s (xs : List Int) (sos : Int) (hl : xs.length ≤ 1000000) : LCall Try.prog ⟨0, [], [ow xs], [], []⟩ 40 [.sl 0, .v (.int .u8 sos)] (fun st' s => st'.ch = [ow (w2F sos xs)] ∧ s = .tup []) := by
  obtain ⟨ys, hys⟩ : ∃ ys, ys = scan w2g w2t sos xs := ⟨_, rfl⟩
  have hyl : ys.length = xs.length := by rw [hys]; exact scan_len _ _ _ _
  have hF : w2F sos xs = ys.map w3f := by rw [hys]; rfl
  have hlen : (w2F sos xs).length = xs.length := by rw [hF]; simp [hyl]
  have hyn : ∀ i, i < xs.length → nth ys i = w2g ((xs.take i).foldl w2t sos) (nth xs i) := fun i hi => by rw [hys]; exact scan_nth _ _ _ _ _ hi
  have hFn : ∀ i, i < ys.length → nth (w2F sos xs) i = w3f (nth ys i) := fun i hi => by rw [hF]; exact map_nth _ _ _ hi
  refine lcall_exec (cf := cf) cfok (fn := Try.f40) Try.func40 rfl _ _ [ow (w2F sos xs)] (.tup []) rfl rfl (by simp [svOkL, svOk]) rfl ⟨⟨by omega, rfl⟩, trivial⟩ rfl rfl ?_
  refine ⟨InPl xs ys, fun s => ⟨47, [⟨0, [], .sl 0⟩, ⟨4, [], .v (.int .u8 ((xs.take s.i).foldl w2t sos))⟩, ⟨5, [], .v (.int .i64 s.i)⟩], [ow s.row], [], dropL nats 1⟩, fun s => xs.length - s.i, ⟨[0], InPl.start _ _, ?_⟩, fun s => ?_⟩
  · exact And.intro (And.intro rfl (And.intro rfl (And.intro rfl trivial))) (And.intro rfl trivial)
  have hsi := s.hi
  have hsr := s.hr
  refine And.intro (fun hlt => ?_) (fun hge => ?_)
  · have hlt : s.i < xs.length := by have : s.i < s.row.length := by simpa using hlt
                                     omega
    have hn : nth ys s.i = w2g ((xs.take s.i).foldl w2t sos) (nth xs s.i) := hyn s.i hlt
    have hf := fold_succ w2t sos xs s.i hlt
    have hx := s.h2 s.i (Nat.le_refl _) hlt
    have fin : ∀ (s' : InPl xs ys) (z : Int), s'.i = s.i + 1 → z = w2t ((xs.take s.i).foldl w2t sos) (nth xs s.i) → SV.v (.int .u8 z) = SV.v (.int .u8 ((xs.take s'.i).foldl w2t sos)) ∧ SV.v (.int .i64 (IntKind.i64.wrap ((s.i : Int) + 1))) = SV.v (.int .i64 s'.i) := fun s' z h1 h2 => by
      rw [h1, h2, hf]; exact ⟨rfl, sv_i64 (i64_succ s.i (by omega))⟩
    refine And.intro ⟨by omega, by omega⟩ ?_
    by_cases e123 : nth xs s.i = 1 ∨ nth xs s.i = 2 ∨ nth xs s.i = 3
    · have hg : nth ys s.i = nth xs s.i := by rw [hn]; rcases e123 with h | h | h <;> simp [w2g, h]
      obtain ⟨f1, f2⟩ := fin (s.keep hlt hg) (nth s.row s.i) rfl (by rw [hx, w2t, if_pos e123])
      by_cases e1 : nth s.row s.i = 1
      · refine And.intro (fun _ => ?_) (fun h => absurd h (by simp [e1]))
        refine And.intro (fun _ => ?_) (fun h => absurd h (by simp [e1]))
        refine And.intro ⟨by omega, by omega⟩ ?_
        exact ⟨[0], s.keep hlt hg, And.intro (And.intro rfl (And.intro f1 (And.intro f2 trivial))) (And.intro rfl trivial), by show _ - (s.i + 1) < _ - s.i; omega⟩
      · refine And.intro (fun h => absurd h (by simp [e1])) (fun _ => ?_)
        by_cases e2 : nth s.row s.i = 2
        · refine And.intro (fun _ => ?_) (fun h => absurd h (by simp [e2]))
          refine And.intro (fun _ => ?_) (fun h => absurd h (by simp [e2]))
          refine And.intro ⟨by omega, by omega⟩ ?_
          exact ⟨[0], s.keep hlt hg, And.intro (And.intro rfl (And.intro f1 (And.intro f2 trivial))) (And.intro rfl trivial), by show _ - (s.i + 1) < _ - s.i; omega⟩
        · have e3 : nth s.row s.i = 3 := by rw [hx] at e1 e2 ⊢; exact (e123.resolve_left e1).resolve_left e2
          refine And.intro (fun h => absurd h (by simp [e2])) (fun _ => ?_)
          refine And.intro (fun _ => ?_) (fun h => absurd h (by simp [e3]))
          refine And.intro ⟨by omega, by omega⟩ ?_
          exact ⟨[0], s.keep hlt hg, And.intro (And.intro rfl (And.intro f1 (And.intro f2 trivial))) (And.intro rfl trivial), by show _ - (s.i + 1) < _ - s.i; omega⟩
    · have e1 : ¬ nth s.row s.i = 1 := by rw [hx]; exact fun h => e123 (.inl h)
      have e2 : ¬ nth s.row s.i = 2 := by rw [hx]; exact fun h => e123 (.inr (.inl h))
      have e3 : ¬ nth s.row s.i = 3 := by rw [hx]; exact fun h => e123 (.inr (.inr h))
      have hT : ((xs.take s.i).foldl w2t sos) = w2t ((xs.take s.i).foldl w2t sos) (nth xs s.i) := by rw [w2t, if_neg e123]
      refine And.intro (fun h => absurd h (by simp [e1])) (fun _ => ?_)
      refine And.intro (fun h => absurd h (by simp [e2])) (fun _ => ?_)
      refine And.intro (fun h => absurd h (by simp [e3])) (fun _ => ?_)
      refine And.intro (fun h4 => ?_) (fun h4 => ?_)
      · have h4 : nth s.row s.i = 4 := by simpa using h4
        rw [hx] at h4
        refine And.intro (fun hs => ?_) (fun hs => ?_)
        · have hs : (xs.take s.i).foldl w2t sos = 3 := by simpa using hs
          have hg : nth ys s.i = 7 := by rw [hn]; simp [w2g, h4, hs]
          obtain ⟨f1, f2⟩ := fin (s.put hlt _ hg) _ rfl hT
          refine And.intro ⟨by omega, by omega⟩ ?_
          refine ⟨_, rfl, rfl, ?_⟩
          exact ⟨[0], s.put hlt _ hg, And.intro (And.intro rfl (And.intro f1 (And.intro f2 trivial))) (And.intro rfl trivial), by show _ - (s.i + 1) < _ - s.i; omega⟩
        · have hs : ¬ (xs.take s.i).foldl w2t sos = 3 := by simpa using hs
          have hg : nth ys s.i = nth xs s.i := by rw [hn]; simp [w2g, hs]
          obtain ⟨f1, f2⟩ := fin (s.keep hlt hg) _ rfl hT
          exact ⟨[0], s.keep hlt hg, And.intro (And.intro rfl (And.intro f1 (And.intro f2 trivial))) (And.intro rfl trivial), by show _ - (s.i + 1) < _ - s.i; omega⟩
      · have h4 : ¬ nth s.row s.i = 4 := by simpa using h4
        rw [hx] at h4
        have hg : nth ys s.i = nth xs s.i := by rw [hn]; simp [w2g, h4]
        obtain ⟨f1, f2⟩ := fin (s.keep hlt hg) _ rfl hT
        exact ⟨[0], s.keep hlt hg, And.intro (And.intro rfl (And.intro f1 (And.intro f2 trivial))) (And.intro rfl trivial), by show _ - (s.i + 1) < _ - s.i; omega⟩
  · have hge : s.i = xs.length := by have : ¬ s.i < s.row.length := by simpa using hge
                                     omega
    have hrow := s.all hge hyl
    have hrl : s.row.length = ys.length := by rw [hrow]
    refine ⟨InPl ys (w2F sos xs), fun t => ⟨47, [⟨0, [], .sl 0⟩, ⟨6, [], .v (.int .i64 t.i)⟩], [ow t.row], [], dropL nats 1⟩, fun t => ys.length - t.i, ⟨[0], InPl.start _ _, ?_⟩, fun t => ?_⟩
    · exact And.intro (And.intro rfl (And.intro rfl trivial)) (And.intro (by show ow s.row = ow ys; rw [hrow]) trivial)
    have hti := t.hi
    have htr := t.hr
    refine And.intro (fun hlt => ?_) (fun hge => ?_)
    · have hlt : t.i < ys.length := by have : t.i < t.row.length := by simpa using hlt
                                       omega
      have hn : nth (w2F sos xs) t.i = w3f (nth ys t.i) := hFn t.i hlt
      have hx := t.h2 t.i (Nat.le_refl _) hlt
      refine And.intro ⟨by omega, by omega⟩ ?_
      refine And.intro (fun h3 => ?_) (fun h3 => ?_)
      · have h3 : nth t.row t.i = 3 := by simpa using h3
        rw [hx] at h3
        have hg : nth (w2F sos xs) t.i = 2 := by rw [hn]; simp [w3f, h3]
        refine And.intro ⟨by omega, by omega⟩ ?_
        refine ⟨_, rfl, rfl, ?_⟩
        exact ⟨[0], t.put hlt _ hg, And.intro (And.intro rfl (And.intro (sv_i64 (i64_succ t.i (by omega))) trivial)) (And.intro rfl trivial), by show _ - (t.i + 1) < _ - t.i; omega⟩
      · have h3 : ¬ nth t.row t.i = 3 := by simpa using h3
        rw [hx] at h3
        have hg : nth (w2F sos xs) t.i = nth ys t.i := by rw [hn]; simp [w3f, h3]
        exact ⟨[0], t.keep hlt hg, And.intro (And.intro rfl (And.intro (sv_i64 (i64_succ t.i (by omega))) trivial)) (And.intro rfl trivial), by show _ - (t.i + 1) < _ - t.i; omega⟩
    · have hge : t.i = ys.length := by have : ¬ t.i < t.row.length := by simpa using hge
                                       omega
      have hrow2 := t.all hge (by rw [hlen, hyl])
      exact ⟨[0], rfl, rfl, rfl, And.intro (by show ow t.row = ow (w2F sos xs); rw [hrow2]) trivial, rfl⟩
end Go.Proofs.Ytcpaaekghajalaa
