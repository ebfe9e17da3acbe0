/- The reference's w5 (and W6), in place. -/
import Derived.Test.YtcpaaekghajalaaW16
namespace Go.Proofs.Ytcpaaekghajalaa
open Go Go.Eng Go.RowKit

/-- the first class behind that is no terminator -/
def nxE : List Int → Int
  | [] => 10
  | c :: r => if c = 6 then nxE r else c
def w5F : Bool → List Int → List Int
  | _, [] => []
  | pe, c :: r => if c = 6 then (if pe = true ∨ nxE r = 4 then 4 :: w5F true r else 6 :: w5F false r) else c :: w5F (decide (c = 4)) r
def w6f (c : Int) : Int := if c = 5 ∨ c = 6 ∨ c = 8 then 14 else c
def w56F (xs : List Int) : List Int := (w5F false xs).map w6f
theorem w5F_len : ∀ pe xs, (w5F pe xs).length = xs.length
  | _, [] => rfl
  | pe, c :: r => by
    simp only [w5F]
    split
    · split <;> simp [w5F_len _ r]
    · simp [w5F_len _ r]
theorem w5F_nth : ∀ (xs : List Int) (pe : Bool) (i : Nat), i < xs.length → nth (w5F pe xs) i = if nth xs i = 6 then (if (if i = 0 then pe = true else nth (w5F pe xs) (i - 1) = 4) ∨ nxE (xs.drop (i + 1)) = 4 then 4 else 6) else nth xs i
  | [], pe, i, h => by simp at h
  | c :: r, pe, 0, _ => by
    simp only [w5F, nth_cons0, if_pos, List.drop_succ_cons, List.drop_zero]
    split
    · split <;> rfl
    · rfl
  | c :: r, pe, i + 1, h => by
    have ih := fun pe' => w5F_nth r pe' i (by simpa using h)
    have key : ∀ (a : Int) (pe' : Bool), (pe' = true ↔ a = 4) → nth (a :: w5F pe' r) (i + 1) = if nth r i = 6 then (if (nth (a :: w5F pe' r) i = 4) ∨ nxE (r.drop (i + 1)) = 4 then 4 else 6) else nth r i := by
      intro a pe' hpe
      rw [nth_consS, ih pe']
      cases i with
      | zero => simp only [if_pos, nth_cons0, hpe]; exact ite_congr rfl (fun _ => ite_congr rfl (fun _ => rfl) (fun _ => rfl)) (fun _ => rfl)
      | succ i => simp only [if_neg (Nat.succ_ne_zero i), nth_consS, Nat.add_sub_cancel]; exact ite_congr rfl (fun _ => ite_congr rfl (fun _ => rfl) (fun _ => rfl)) (fun _ => rfl)
    simp only [nth_consS, List.drop_succ_cons, if_neg (Nat.succ_ne_zero i), Nat.add_sub_cancel]
    simp only [w5F]
    split
    · split
      · exact key 4 true (by simp)
      · exact key 6 false (by simp)
    · exact key c _ (by simp)

theorem nxE_run (xs : List Int) (k : Nat) (hk : k ≤ xs.length) : ∀ n, n ≤ k → (∀ j, k - n ≤ j → j < k → nth xs j = 6) → nxE (xs.drop (k - n)) = nxE (xs.drop k)
  | 0, _, _ => rfl
  | n + 1, hn, h => by
    rw [drop_nth xs (k - (n + 1)) (by omega)]
    simp only [nxE, h (k - (n + 1)) (by omega) (by omega), if_true]
    rw [show k - (n + 1) + 1 = k - n from by omega]
    exact nxE_run xs k hk n (by omega) (fun j h1 h2 => h j (by omega) h2)
theorem nxE_end (xs : List Int) (k : Nat) (hend : xs.length ≤ k ∨ nth xs k ≠ 6) : nxE (xs.drop k) = 4 ↔ k < xs.length ∧ nth xs k = 4 := by
  rcases Nat.lt_or_ge k xs.length with h | h
  · rw [drop_nth xs k h]
    simp only [nxE, if_neg (hend.resolve_left (by omega))]
    exact ⟨fun e => ⟨h, e⟩, fun e => e.2⟩
  · rw [List.drop_eq_nil_of_le h]
    simp only [nxE]
    omega

/-- what a run of terminators becomes -/
theorem w5_run (xs : List Int) (i k : Nat) (hk : k ≤ xs.length) (hend : xs.length ≤ k ∨ nth xs k ≠ 6) (hrun : ∀ j, i ≤ j → j < k → nth xs j = 6) :
    (((0 < i ∧ nth (w5F false xs) (i - 1) = 4) ∨ (k < xs.length ∧ nth xs k = 4)) → ∀ j, i ≤ j → j < k → nth (w5F false xs) j = 4) ∧
    (¬ ((0 < i ∧ nth (w5F false xs) (i - 1) = 4) ∨ (k < xs.length ∧ nth xs k = 4)) → ∀ j, i ≤ j → j < k → nth (w5F false xs) j = 6) := by
  have hval : ∀ j, i ≤ j → j < k → nth (w5F false xs) j = if ((0 < j ∧ nth (w5F false xs) (j - 1) = 4) ∨ (k < xs.length ∧ nth xs k = 4)) then 4 else 6 := by
    intro j h1 h2
    rw [w5F_nth xs false j (by omega), if_pos (hrun j h1 h2)]
    have hx := nxE_run xs k hk (k - (j + 1)) (by omega) (fun q a b => hrun q (by omega) b)
    rw [show k - (k - (j + 1)) = j + 1 from by omega] at hx
    have hz : (if j = 0 then (false : Bool) = true else nth (w5F false xs) (j - 1) = 4) ↔ (0 < j ∧ nth (w5F false xs) (j - 1) = 4) := by
      by_cases hj : j = 0
      · simp [hj]
      · simp only [if_neg hj]
        exact ⟨fun h => ⟨by omega, h⟩, fun h => h.2⟩
    rw [hx]
    simp only [hz, nxE_end xs k hend]
  refine ⟨fun hc j => ?_, fun hc j => ?_⟩
  · induction j with
    | zero =>
      intro h1 h2
      rw [hval 0 h1 h2, if_pos]
      have : i = 0 := by omega
      subst this
      exact hc
    | succ j ih =>
      intro h1 h2
      rw [hval _ h1 h2, if_pos]
      rcases Nat.lt_or_ge j i with h3 | h3
      · have : i = j + 1 := by omega
        rw [← this]; exact hc
      · exact .inl ⟨by omega, ih h3 (by omega)⟩
  · induction j with
    | zero =>
      intro h1 h2
      rw [hval 0 h1 h2, if_neg]
      have : i = 0 := by omega
      subst this
      exact hc
    | succ j ih =>
      intro h1 h2
      rw [hval _ h1 h2, if_neg]
      rcases Nat.lt_or_ge j i with h3 | h3
      · have : i = j + 1 := by omega
        rw [← this]; exact hc
      · rintro (⟨_, h4⟩ | h4)
        · rw [Nat.add_sub_cancel, ih h3 (by omega)] at h4; omega
        · exact hc (.inr h4)

def InPl.jump {xs ys : List Int} (s : InPl xs ys) (k : Nat) (hk : k ≤ xs.length) (h : ∀ j, s.i ≤ j → j < k → nth ys j = nth xs j) (hik : s.i ≤ k) : InPl xs ys where
  i := k
  hi := hk
  row := s.row
  hr := s.hr
  h1 j hj := by
    rcases Nat.lt_or_ge j s.i with hlt | hge
    · exact s.h1 j hlt
    · rw [s.h2 j hge (by omega), h j hge hj]
  h2 j h3 h4 := s.h2 j (by omega) h4

theorem i64_back (k : Nat) (h : k ≤ 1000000) (h0 : 0 < k) : IntKind.i64.wrap (IntKind.i64.wrap ((k : Int) - 1) + 1) = (k : Int) := by
  rw [i64_pred k (by omega) h0, i64_succ _ (by omega)]; omega

set_option maxHeartbeats 1000000 in
theorem w5_s (xs : List Int) (hl : xs.length ≤ 1000000) : LCall Try.prog ⟨0, [], [ow xs], [], []⟩ 42 [.sl 0] (fun st' s => st'.ch = [ow (w56F xs)] ∧ s = .tup []) := by
  obtain ⟨ys, hys⟩ : ∃ ys, ys = w5F false xs := ⟨_, rfl⟩
  have hyl : ys.length = xs.length := by rw [hys]; exact w5F_len _ _
  have hF : w56F xs = ys.map w6f := by rw [hys]; rfl
  have hlen : (w56F xs).length = xs.length := by rw [hF]; simp [hyl]
  have hFn : ∀ i, i < ys.length → nth (w56F xs) i = w6f (nth ys i) := fun i hi => by rw [hF]; exact map_nth _ _ _ hi
  have hyo : ∀ i, i < xs.length → nth xs i ≠ 6 → nth ys i = nth xs i := fun i hi hne => by rw [hys, w5F_nth xs false i hi, if_neg hne]
  have hrun := fun i k hk he hr => w5_run xs i k hk he hr
  rw [← hys] at hrun
  refine lcall_exec (cf := cf) cfok (fn := Try.f42) Try.func42 rfl _ _ [ow (w56F xs)] (.tup []) rfl rfl (by simp [svOkL, svOk]) rfl ⟨⟨by omega, rfl⟩, trivial⟩ rfl rfl ?_
  refine ⟨InPl xs ys, fun s => ⟨91, [⟨0, [], .sl 0⟩, ⟨2, [], .v (.int .i64 s.i)⟩], [ow s.row], [], dropL nats 1⟩, fun s => xs.length - s.i, ⟨[0], InPl.start _ _, ?_⟩, fun s => ?_⟩
  · exact And.intro (And.intro rfl (And.intro rfl trivial)) (And.intro rfl trivial)
  have hsi := s.hi
  have hsr := s.hr
  refine And.intro (fun hlt => ?_) (fun hge => ?_)
  · have hlt : s.i < xs.length := by have : s.i < s.row.length := by simpa using hlt
                                     omega
    have hx := s.h2 s.i (Nat.le_refl _) hlt
    refine And.intro ⟨by omega, by omega⟩ ?_
    refine And.intro (fun hne => ?_) (fun he => ?_)
    · have hne : ¬ nth s.row s.i = 6 := by simpa using hne
      rw [hx] at hne
      exact ⟨[0], s.keep hlt (hyo s.i hlt hne), And.intro (And.intro rfl (And.intro (sv_i64 (i64_succ s.i (by omega))) trivial)) (And.intro rfl trivial), by show _ - (s.i + 1) < _ - s.i; omega⟩
    · have he : nth s.row s.i = 6 := by simpa using he
      rw [hx] at he
      refine ⟨{ k : Nat // s.i ≤ k ∧ k ≤ xs.length ∧ ∀ j, s.i ≤ j → j < k → nth xs j = 6 }, fun k => ⟨91, [⟨0, [], .sl 0⟩, ⟨2, [], .v (.int .i64 s.i)⟩, ⟨3, [], .v (.int .i64 k.1)⟩], [ow s.row], [], dropL nats 1⟩, fun k => xs.length - k.1, ⟨[0], ⟨s.i, Nat.le_refl _, hsi, fun j h1 h2 => by omega⟩, ?_⟩, fun k => ?_⟩
      · exact And.intro (And.intro rfl (And.intro rfl (And.intro rfl trivial))) (And.intro rfl trivial)
      obtain ⟨k, hik, hk, hr6⟩ := k
      refine And.intro (fun g => ⟨by omega, (by simpa using g : (k : Int) < s.row.length)⟩) ?_
      refine And.intro (fun hc => ?_) (fun hc => ?_)
      · have hc : k < s.row.length ∧ nth s.row k = 6 := by simpa using hc
        obtain ⟨hc1, hc2⟩ := hc
        rw [hsr] at hc1
        rw [s.h2 k hik hc1] at hc2
        refine ⟨[0], ⟨k + 1, by omega, hc1, fun j h1 h2 => ?_⟩, And.intro (And.intro rfl (And.intro rfl (And.intro (sv_i64 (i64_succ k (by omega))) trivial))) (And.intro rfl trivial), by show _ - (k + 1) < _ - k; omega⟩
        by_cases e : j = k
        · subst e; exact hc2
        · exact hr6 j h1 (by omega)
      · have hend : xs.length ≤ k ∨ nth xs k ≠ 6 := by
          rcases Nat.lt_or_ge k xs.length with hlt' | hge'
          · refine .inr ?_
            have hc : ¬ (k < s.row.length ∧ nth s.row k = 6) := by simpa using hc
            rw [hsr, s.h2 k hik hlt'] at hc
            exact fun e => hc ⟨hlt', e⟩
          · exact .inl hge'
        have hik2 : s.i < k := by
          rcases Nat.lt_or_ge s.i k with h | h
          · exact h
          · have : k = s.i := by omega
            subst this
            exact absurd he (hend.resolve_left (by omega))
        obtain ⟨hrT, hrF⟩ := hrun s.i k hk hend hr6
        refine And.intro (fun g => by
          have g : 0 < s.i := by simpa using g
          rw [i64_pred s.i (by omega) g]
          exact ⟨by omega, by omega⟩) ?_
        refine And.intro (fun g _ => ⟨by omega, (by simpa using g : (k : Int) < s.row.length)⟩) ?_
        have hcond : ((0 < s.i ∧ nth s.row (IntKind.i64.wrap ((s.i : Int) - 1)).toNat = 4) ∨ (k < s.row.length ∧ nth s.row k = 4)) ↔ ((0 < s.i ∧ nth ys (s.i - 1) = 4) ∨ (k < xs.length ∧ nth xs k = 4)) := by
          have h1 : (0 < s.i ∧ nth s.row (IntKind.i64.wrap ((s.i : Int) - 1)).toNat = 4) ↔ (0 < s.i ∧ nth ys (s.i - 1) = 4) := by
            constructor
            · rintro ⟨a, b⟩
              rw [i64_pred s.i (by omega) a, Int.toNat_natCast, s.h1 _ (by omega)] at b
              exact ⟨a, b⟩
            · rintro ⟨a, b⟩
              rw [i64_pred s.i (by omega) a, Int.toNat_natCast, s.h1 _ (by omega)]
              exact ⟨a, b⟩
          have h2 : (k < s.row.length ∧ nth s.row k = 4) ↔ (k < xs.length ∧ nth xs k = 4) := by
            rw [hsr]
            constructor
            · rintro ⟨a, b⟩; rw [s.h2 k hik a] at b; exact ⟨a, b⟩
            · rintro ⟨a, b⟩; rw [s.h2 k hik a]; exact ⟨a, b⟩
          rw [h1, h2]
        refine And.intro (fun hc => ?_) (fun hc => ?_)
        · have hc : (0 < s.i ∧ nth s.row (IntKind.i64.wrap ((s.i : Int) - 1)).toNat = 4) ∨ (k < s.row.length ∧ nth s.row k = 4) := by simpa using hc
          have hall := hrT (hcond.1 hc)
          refine ⟨{ t : InPl xs ys // s.i ≤ t.i ∧ t.i ≤ k }, fun t => ⟨91, [⟨0, [], .sl 0⟩, ⟨2, [], .v (.int .i64 t.1.i)⟩, ⟨3, [], .v (.int .i64 k)⟩], [ow t.1.row], [], dropL nats 1⟩, fun t => k - t.1.i, ⟨[0], ⟨s, Nat.le_refl _, hik⟩, ?_⟩, fun t => ?_⟩
          · exact And.intro (And.intro rfl (And.intro rfl (And.intro rfl trivial))) (And.intro rfl trivial)
          obtain ⟨t, ht1, ht2⟩ := t
          have htr := t.hr
          refine And.intro (fun hlt2 => ?_) (fun hge2 => ?_)
          · have hlt2 : t.i < k := by have : (t.i : Int) < k := by simpa using hlt2
                                      omega
            refine And.intro ⟨by show (0 : Int) ≤ (t.i : Int); omega, by show (t.i : Int) < (t.row.length : Nat); omega⟩ ?_
            refine ⟨_, rfl, rfl, ?_⟩
            exact ⟨[0], ⟨t.put (by omega) _ (hall t.i ht1 hlt2), by show s.i ≤ t.i + 1; omega, by show t.i + 1 ≤ k; omega⟩, And.intro (And.intro rfl (And.intro (sv_i64 (i64_succ t.i (by omega))) (And.intro rfl trivial))) (And.intro rfl trivial), by show _ - (t.i + 1) < _ - t.i; omega⟩
          · have hge2 : t.i = k := by have : ¬ (t.i : Int) < k := by simpa using hge2
                                      omega
            exact ⟨[0], t, And.intro (And.intro rfl (And.intro (sv_i64 (by rw [i64_back k (by omega) (by omega), hge2])) trivial)) (And.intro rfl trivial), by show _ - t.i < _ - s.i; omega⟩
        · have hc : ¬ ((0 < s.i ∧ nth s.row (IntKind.i64.wrap ((s.i : Int) - 1)).toNat = 4) ∨ (k < s.row.length ∧ nth s.row k = 4)) := by
            intro hh
            have hz : ∀ (b : Bool), b = false → b = true → False := by intro b h1 h2; rw [h1] at h2; cases h2
            exact hz _ hc (by simpa using hh)
          have hall := hrF (fun h => hc (hcond.2 h))
          exact ⟨[0], s.jump k hk (fun j h1 h2 => by rw [hall j h1 h2, hr6 j h1 h2]) hik, And.intro (And.intro rfl (And.intro (sv_i64 (i64_back k (by omega) (by omega))) trivial)) (And.intro rfl trivial), by show _ - k < _ - s.i; omega⟩
  · have hge : s.i = xs.length := by have : ¬ s.i < s.row.length := by simpa using hge
                                     omega
    have hrow := s.all hge hyl
    refine ⟨InPl ys (w56F xs), fun t => ⟨91, [⟨0, [], .sl 0⟩, ⟨4, [], .v (.int .i64 t.i)⟩], [ow t.row], [], dropL nats 1⟩, fun t => ys.length - t.i, ⟨[0], InPl.start _ _, ?_⟩, fun t => ?_⟩
    · exact And.intro (And.intro rfl (And.intro rfl trivial)) (And.intro (by show ow s.row = ow ys; rw [hrow]) trivial)
    have hti := t.hi
    have htr := t.hr
    refine And.intro (fun hlt => ?_) (fun hge => ?_)
    · have hlt : t.i < ys.length := by have : t.i < t.row.length := by simpa using hlt
                                       omega
      have hn := hFn t.i hlt
      have hx := t.h2 t.i (Nat.le_refl _) hlt
      refine And.intro ⟨by omega, by omega⟩ ?_
      refine And.intro (fun _ => ⟨by omega, by omega⟩) ?_
      refine And.intro (fun _ => ⟨by omega, by omega⟩) ?_
      refine And.intro (fun hc => ?_) (fun hc => ?_)
      · have hc : (nth t.row t.i = 5 ∨ nth t.row t.i = 6) ∨ nth t.row t.i = 8 := by simpa using hc
        rw [hx] at hc
        have hg : nth (w56F xs) t.i = 14 := by rw [hn, w6f, if_pos (by rcases hc with (h | h) | h <;> simp [h])]
        refine And.intro ⟨by omega, by omega⟩ ?_
        refine ⟨_, rfl, rfl, ?_⟩
        exact ⟨[0], t.put hlt _ hg, And.intro (And.intro rfl (And.intro (sv_i64 (i64_succ t.i (by omega))) trivial)) (And.intro rfl trivial), by show _ - (t.i + 1) < _ - t.i; omega⟩
      · have hc : ¬ ((nth t.row t.i = 5 ∨ nth t.row t.i = 6) ∨ nth t.row t.i = 8) := by
          intro hh
          have hz : ∀ (b : Bool), b = false → b = true → False := by intro b h1 h2; rw [h1] at h2; cases h2
          exact hz _ hc (by simpa using hh)
        rw [hx] at hc
        have hg : nth (w56F xs) t.i = nth ys t.i := by rw [hn, w6f, if_neg (fun h => hc (by rcases h with h | h | h; exact .inl (.inl h); exact .inl (.inr h); exact .inr h))]
        exact ⟨[0], t.keep hlt hg, And.intro (And.intro rfl (And.intro (sv_i64 (i64_succ t.i (by omega))) trivial)) (And.intro rfl trivial), by show _ - (t.i + 1) < _ - t.i; omega⟩
    · have hge : t.i = ys.length := by have : ¬ t.i < t.row.length := by simpa using hge
                                       omega
      have hrow2 := t.all hge (by rw [hlen, hyl])
      exact ⟨[0], rfl, rfl, rfl, And.intro (by show ow t.row = ow (w56F xs); rw [hrow2]) trivial, rfl⟩
end Go.Proofs.Ytcpaaekghajalaa
