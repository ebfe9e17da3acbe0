/- calamusref11.Neutral: it computes neuX, for every row. -/
import Derived.Test.YtcpaaekghajalaaW5
namespace Go.Proofs.Ytcpaaekghajalaa
open Go Go.Eng Go.RowKit

structure OS (ys : List Int) (lv sos eos : Int) where
  i : Nat
  hi : i ≤ ys.length
  row : List Int
  hr : row.length = ys.length
  h1 : ∀ j, j < i → nth row j = nth (neuX ys lv sos eos) j
  h2 : ∀ j, i ≤ j → j < ys.length → nth row j = nth ys j
  hrun : i = 0 ∨ neuF (nth ys (i - 1)) = false ∨ ys.length ≤ i ∨ neuF (nth ys i) = false

structure WSt (ys : List Int) (lv sos eos : Int) (i k : Nat) where
  j : Nat
  hij : i ≤ j
  hjk : j ≤ k
  row : List Int
  hr : row.length = ys.length
  h1 : ∀ q, q < j → nth row q = nth (neuX ys lv sos eos) q
  h2 : ∀ q, j ≤ q → q < ys.length → nth row q = nth ys q

def OS.skip {ys : List Int} {lv sos eos : Int} (s : OS ys lv sos eos) (h : s.i < ys.length) (hn : neuF (nth ys s.i) = false) : OS ys lv sos eos where
  i := s.i + 1
  hi := h
  row := s.row
  hr := s.hr
  h1 j hj := by
    rcases Nat.lt_or_ge j s.i with hlt | hge
    · exact s.h1 j hlt
    · have : j = s.i := by omega
      subst this
      rw [s.h2 _ (Nat.le_refl _) h, neuX_nth _ _ _ _ _ h, hn]; rfl
  h2 j h3 h4 := s.h2 j (by omega) h4
  hrun := .inr (.inl (by simpa using hn))
def WSt.put {ys : List Int} {lv sos eos : Int} {i k : Nat} (s : WSt ys lv sos eos i k) (h : s.j < k) (hk : k ≤ ys.length) (hn : ∀ j, i ≤ j → j < k → neuF (nth ys j) = true) : WSt ys lv sos eos i k where
  j := s.j + 1
  hij := by have := s.hij; omega
  hjk := h
  row := s.row.set s.j (runC ys lv sos eos i k)
  hr := by simp [s.hr]
  h1 q hq := by
    rw [nth_set _ _ _ _ (by rw [s.hr]; omega)]
    split
    · rename_i e; rw [e, run_nth ys lv sos eos i k s.j s.hij h hk hn]
    · exact s.h1 q (by omega)
  h2 q h3 h4 := by
    rw [nth_set _ _ _ _ (by rw [s.hr]; omega), if_neg (by omega)]
    exact s.h2 q (by omega) h4
def WSt.done {ys : List Int} {lv sos eos : Int} {i k : Nat} (s : WSt ys lv sos eos i k) (h : s.j = k) (hk : k ≤ ys.length) (hend : ys.length ≤ k ∨ neuF (nth ys k) = false) : OS ys lv sos eos where
  i := k
  hi := hk
  row := s.row
  hr := s.hr
  h1 j hj := s.h1 j (by omega)
  h2 j h3 h4 := s.h2 j (by omega) h4
  hrun := .inr (.inr hend)

theorem sideT {lv : Int} (h0 : 0 ≤ lv) (h : decide (lv.tmod 2 = 1) = true) : sideOf lv = 2 := by
  have h : lv.tmod 2 = 1 := by simpa using h
  rw [Int.tmod_eq_emod_of_nonneg h0] at h
  simp [sideOf, h]
theorem sideFl {lv : Int} (h0 : 0 ≤ lv) (h : decide (lv.tmod 2 = 1) = false) : sideOf lv = 1 := by
  have h : ¬ lv.tmod 2 = 1 := by simpa using h
  rw [Int.tmod_eq_emod_of_nonneg h0] at h
  simp [sideOf, h]
theorem svu {a b : Int} (h : a = b) : SV.v (.int .u8 a) = SV.v (.int .u8 b) := by rw [h]
theorem ownEq {a b : List Int} (h : a = b) : Chunk.own 23 Int inferInstance 1 cE a = Chunk.own 23 Int inferInstance 1 cE b := by rw [h]
theorem i64_pred (n : Nat) (h : n < 9223372036854775807) (h1 : 0 < n) : IntKind.i64.wrap ((n : Int) - 1) = ((n - 1 : Nat) : Int) := by rw [i64_id _ (by omega) (by omega)]; omega

set_option maxHeartbeats 8000000 in
theorem refNeu_c (xs : List Int) (lv sos eos : Int) (v : Value) (w : World) (hl : xs.length ≤ 1000000) (hlv : 0 ≤ lv ∧ lv ≤ 255) (hv : Rd w v 1 cE xs) :
    Calls Try.prog 19 #[v, .int .u8 lv, .int .u8 sos, .int .u8 eos] w fun e w' => ∃ u, e = .returned u ∧ Below w.heap.size w w' ∧ Fresh w w' u 23 1 cE (neuX xs lv sos eos) := by
  refine calls_exec (cf := cf) cfok (fn := Try.f19) Try.func19 rfl [.sl 0, .v (.int .u8 lv), .v (.int .u8 sos), .v (.int .u8 eos)] [.rd Int inferInstance 1 cE xs] (ρ := fun _ => v) (· < w.heap.size) rfl rfl rfl (by simp [svOkL, svOk]) (memRd (fun _ h => h) ⟨hv, trivial⟩) ?_
  have hlen := neuX_len xs lv sos eos
  refine ⟨{ i : Nat // i ≤ xs.length }, fun i => ⟨127, [⟨0, [], .sl 0⟩, ⟨1, [], .v (.int .u8 lv)⟩, ⟨2, [], .v (.int .u8 sos)⟩, ⟨3, [], .v (.int .u8 eos)⟩, ⟨9, [], .sl 1⟩, ⟨10, [], .v (.int .i64 i.1)⟩], [.rd Int inferInstance 1 cE xs, .own 23 Int inferInstance 1 cE (noBN (xs.take i.1))], [], dropL nats 2⟩,
    fun i => xs.length - i.1, ⟨[0, 1000], ⟨0, by omega⟩, ?_⟩, fun i => ?_⟩
  · exact And.intro (And.intro rfl (And.intro rfl (And.intro rfl (And.intro rfl (And.intro rfl (And.intro rfl trivial)))))) (And.intro rfl (And.intro rfl trivial))
  obtain ⟨i, hi⟩ := i
  refine And.intro (fun hlt => ?_) (fun hge => ?_)
  · have hlt : i < xs.length := by simpa using hlt
    have hsn := noBN_snoc xs i hlt
    have hll := noBN_len (xs.take i)
    have hlt2 : (xs.take i).length ≤ i := by simp; omega
    refine And.intro ⟨by (first | omega | (dsimp only at *; omega)), by (first | omega | (dsimp only at *; omega))⟩ ?_
    refine And.intro (fun hne => ?_) (fun he => ?_)
    · have hne : ¬ nth xs i = 10 := by simpa using hne
      rw [if_neg hne] at hsn
      refine And.intro ⟨by (first | omega | (dsimp only at *; omega)), by (first | omega | (dsimp only at *; omega))⟩ ?_
      refine ⟨[nth xs i], And.intro rfl (And.intro rfl (fun y hy => rfl)), by show ((noBN (xs.take i)).length + 1) * 1 ≤ _; omega, ?_⟩
      exact ⟨[0, 3], ⟨i + 1, hlt⟩, And.intro (And.intro rfl (And.intro rfl (And.intro rfl (And.intro rfl (And.intro rfl (And.intro (sv_i64 (i64_succ i (by omega))) trivial)))))) (And.intro rfl (And.intro (ownEq hsn.symm) trivial)), by show _ - (i + 1) < _ - i; omega⟩
    · have he : nth xs i = 10 := by simpa using he
      rw [if_pos he] at hsn
      exact ⟨[0, 1], ⟨i + 1, hlt⟩, And.intro (And.intro rfl (And.intro rfl (And.intro rfl (And.intro rfl (And.intro rfl (And.intro (sv_i64 (i64_succ i (by omega))) trivial)))))) (And.intro rfl (And.intro (ownEq hsn.symm) trivial)), by show _ - (i + 1) < _ - i; omega⟩
  have hge : i = xs.length := by have : ¬ i < xs.length := by simpa using hge
                                 (first | omega | (dsimp only at *; omega))
  subst hge
  have hys : noBN (xs.take xs.length) = noBN xs := by rw [List.take_length]
  have hyl := noBN_len xs
  refine And.intro (by show (2 : Int) ≠ 0; omega) ?_
  refine And.intro (fun hs => ?_) (fun hs => ?_)
  all_goals
    refine ⟨OS (noBN xs) lv sos eos, fun s => ⟨127, [⟨0, [], .sl 0⟩, ⟨2, [], .v (.int .u8 sos)⟩, ⟨3, [], .v (.int .u8 eos)⟩, ⟨9, [], .sl 1⟩, ⟨11, [], .v (.int .u8 (sideOf lv))⟩, ⟨12, [], .v (.int .i64 s.i)⟩], [.rd Int inferInstance 1 cE xs, .own 23 Int inferInstance 1 cE s.row], [], dropL nats 2⟩,
      fun s => (noBN xs).length - s.i, ⟨[0, 1], ⟨0, by omega, noBN xs, rfl, fun j h => by omega, fun j _ _ => rfl, .inl rfl⟩, ?_⟩, fun s => ?_⟩
    · exact And.intro (And.intro rfl (And.intro rfl (And.intro rfl (And.intro rfl (And.intro (by first | exact svu (sideT hlv.1 hs).symm | exact svu (sideFl hlv.1 hs).symm) (And.intro rfl trivial)))))) (And.intro rfl (And.intro (ownEq hys) trivial))
    have hsi := s.hi
    have hsr := s.hr
    refine And.intro (fun hlt => ?_) (fun hge => ?_)
    · have hlt : s.i < (noBN xs).length := by have : s.i < s.row.length := by simpa using hlt
                                              omega
      refine ⟨{ k : Nat // s.i ≤ k ∧ k ≤ (noBN xs).length ∧ ∀ j, s.i ≤ j → j < k → neuF (nth (noBN xs) j) = true }, fun k => ⟨127, [⟨0, [], .sl 0⟩, ⟨2, [], .v (.int .u8 sos)⟩, ⟨3, [], .v (.int .u8 eos)⟩, ⟨9, [], .sl 1⟩, ⟨11, [], .v (.int .u8 (sideOf lv))⟩, ⟨12, [], .v (.int .i64 s.i)⟩, ⟨13, [], .v (.int .i64 k.1)⟩], [.rd Int inferInstance 1 cE xs, .own 23 Int inferInstance 1 cE s.row], [], dropL nats 2⟩,
        fun k => (noBN xs).length - k.1, ⟨[0, 1], ⟨s.i, Nat.le_refl _, hsi, fun j h1 h2 => by omega⟩, ?_⟩, fun k => ?_⟩
      · exact And.intro (And.intro rfl (And.intro rfl (And.intro rfl (And.intro rfl (And.intro rfl (And.intro rfl (And.intro rfl trivial))))))) (And.intro rfl (And.intro rfl trivial))
      obtain ⟨k, hik, hk, hn⟩ := k
      refine And.intro (fun g => ⟨by (first | omega | (dsimp only at *; omega)), (by simpa using g : (k : Int) < s.row.length)⟩) ?_
      refine Or.inl ⟨_, fun _ ρ S w' hm => isNeutral_c _ _, ?_⟩
      refine And.intro (fun hc => ?_) (fun hc => ?_)
      · have hc : k < s.row.length ∧ neuF (nth s.row k) = true := by simpa using hc
        obtain ⟨hc1, hc2⟩ := hc
        rw [hsr] at hc1
        rw [s.h2 k hik hc1] at hc2
        refine ⟨[0, 1], ⟨k + 1, by omega, hc1, fun j h1 h2 => ?_⟩, And.intro (And.intro rfl (And.intro rfl (And.intro rfl (And.intro rfl (And.intro rfl (And.intro rfl (And.intro (sv_i64 (i64_succ k (by omega))) trivial))))))) (And.intro rfl (And.intro rfl trivial)), by show _ - (k + 1) < _ - k; omega⟩
        by_cases e : j = k
        · subst e; exact hc2
        · exact hn j h1 (by omega)
      · have hend : (noBN xs).length ≤ k ∨ neuF (nth (noBN xs) k) = false := by
          rcases Nat.lt_or_ge k (noBN xs).length with hlt' | hge'
          · refine .inr ?_
            have hc : ¬ (k < s.row.length ∧ neuF (nth s.row k) = true) := by simpa using hc
            rw [hsr, s.h2 k hik hlt'] at hc
            simpa [hlt'] using hc
          · exact .inl hge'
        refine And.intro (fun he => ?_) (fun hne => ?_)
        · have he : k = s.i := by have : (k : Int) = s.i := by simpa using he
                                  omega
          subst he
          have hnf : neuF (nth (noBN xs) s.i) = false := hend.resolve_left (by omega)
          exact ⟨[0, 1], s.skip hlt hnf, And.intro (And.intro rfl (And.intro rfl (And.intro rfl (And.intro rfl (And.intro rfl (And.intro (sv_i64 (i64_succ s.i (by omega))) trivial)))))) (And.intro rfl (And.intro rfl trivial)), by show _ - (s.i + 1) < _ - s.i; omega⟩
        · have hne : s.i < k := by have : ¬ (k : Int) = s.i := by simpa using hne
                                   omega
          refine Or.inl ⟨_, fun ρ S w' hm => ends_c _ _, ?_⟩
          refine Or.inl ⟨_, fun ρ S w' hm => ends_c _ _, ?_⟩
          have hA0 : s.i = 0 → dA (edgeF sos) ((noBN xs).take s.i) = edgeF sos := fun e => by rw [e]; rfl
          have hA1 : 0 < s.i → dA (edgeF sos) ((noBN xs).take s.i) = sideF (nth s.row (s.i - 1)) := fun e => by
            have hprev : neuF (nth (noBN xs) (s.i - 1)) = false := by
              rcases s.hrun with h | h | h | h
              · omega
              · exact h
              · omega
              · rw [hn s.i (Nat.le_refl _) hne] at h; cases h
            have := dA_step (edgeF sos) (noBN xs) (s.i - 1) (by omega)
            rw [show s.i - 1 + 1 = s.i from by omega, if_pos (by rw [tells_ne (noBN_mem (by omega)), hprev]; rfl)] at this
            rw [this, s.h1 _ (by omega), neuX_nth _ _ _ _ _ (by omega), hprev]; rfl
          have hB0 : (noBN xs).length ≤ k → bh (edgeF eos) ((noBN xs).drop k) = edgeF eos := fun e => by rw [List.drop_eq_nil_of_le e]; rfl
          have hB1 : k < (noBN xs).length → bh (edgeF eos) ((noBN xs).drop k) = sideF (nth s.row k) := fun e => by
            rw [bh_step _ _ _ e, if_pos (by rw [tells_ne (noBN_mem e), hend.resolve_left (by omega)]; rfl), s.h2 k hik e]
          have hi64 : 0 < s.i → IntKind.i64.wrap ((s.i : Int) - 1) = ((s.i - 1 : Nat) : Int) := i64_pred s.i (by omega)
          refine And.intro (fun hp => ?_) (fun hp => ?_)
          all_goals
            first
            | (have hp : 0 < s.i := by simpa using hp
               have hA := hA1 hp
               have h64 := hi64 hp
               refine And.intro (by rw [h64]; exact ⟨by (first | omega | (dsimp only at *; omega)), by (first | omega | (dsimp only at *; omega))⟩) ?_
               refine Or.inl ⟨_, fun ρ S w' hm => side2_c _ _, ?_⟩
               rw [show nth s.row (s.i - 1) = nth s.row (IntKind.i64.wrap ((s.i : Int) - 1)).toNat from by rw [h64]; rfl] at hA)
            | (have hp : s.i = 0 := by have : ¬ (s.i : Int) > 0 := by simpa using hp
                                       omega
               have hA := hA0 hp)
            refine And.intro (fun hq => ?_) (fun hq => ?_)
            all_goals
              first
              | (have hq : k < (noBN xs).length := by have : k < s.row.length := by simpa using hq
                                                      omega
                 have hB := hB1 hq
                 refine And.intro ⟨by (first | omega | (dsimp only at *; omega)), by (first | omega | (dsimp only at *; omega))⟩ ?_
                 refine Or.inl ⟨_, fun ρ S w' hm => side2_c _ _, ?_⟩)
              | (have hq : (noBN xs).length ≤ k := by have : ¬ k < s.row.length := by simpa using hq
                                                      omega
                 have hB := hB0 hq)
              refine And.intro (fun hc => ?_) (fun hc => ?_)
              all_goals
                refine ⟨WSt (noBN xs) lv sos eos s.i k, fun t => ⟨127, [⟨0, [], .sl 0⟩, ⟨2, [], .v (.int .u8 sos)⟩, ⟨3, [], .v (.int .u8 eos)⟩, ⟨9, [], .sl 1⟩, ⟨11, [], .v (.int .u8 (sideOf lv))⟩, ⟨12, [], .v (.int .i64 t.j)⟩, ⟨13, [], .v (.int .i64 k)⟩, ⟨16, [], .v (.int .u8 (runC (noBN xs) lv sos eos s.i k))⟩], [.rd Int inferInstance 1 cE xs, .own 23 Int inferInstance 1 cE t.row], [], dropL nats 2⟩,
                  fun t => k - t.j, ⟨[0, 1], ⟨s.i, Nat.le_refl _, by omega, s.row, s.hr, s.h1, s.h2⟩, ?_⟩, fun t => ?_⟩
                · refine And.intro (And.intro rfl (And.intro rfl (And.intro rfl (And.intro rfl (And.intro rfl (And.intro rfl (And.intro rfl (And.intro (svu ?_) trivial)))))))) (And.intro rfl (And.intro rfl trivial))
                  unfold runC
                  rw [hA, hB]
                  first
                  | rw [if_pos (by simpa using hc)]
                  | rw [if_neg (by simpa using hc)]
                · have htr := t.hr
                  have hjk := t.hjk
                  refine And.intro (fun hlt2 => ?_) (fun hge2 => ?_)
                  · have hlt2 : t.j < k := by have : (t.j : Int) < k := by simpa using hlt2
                                              omega
                    refine And.intro ⟨by (first | omega | (dsimp only at *; omega)), by (first | omega | (dsimp only at *; omega))⟩ ?_
                    refine ⟨_, rfl, rfl, ?_⟩
                    exact ⟨[0, 1], t.put hlt2 hk hn, And.intro (And.intro rfl (And.intro rfl (And.intro rfl (And.intro rfl (And.intro rfl (And.intro (sv_i64 (i64_succ t.j (by omega))) (And.intro rfl (And.intro rfl trivial)))))))) (And.intro rfl (And.intro rfl trivial)), by show _ - (t.j + 1) < _ - t.j; omega⟩
                  · have hge2 : t.j = k := by have : ¬ (t.j : Int) < k := by simpa using hge2
                                              omega
                    exact ⟨[0, 1], t.done hge2 hk hend, And.intro (And.intro rfl (And.intro rfl (And.intro rfl (And.intro rfl (And.intro rfl (And.intro (by rw [hge2]; rfl) trivial)))))) (And.intro rfl (And.intro rfl trivial)), by show _ - k < _ - s.i; omega⟩
    · have hge : s.i = (noBN xs).length := by have : ¬ s.i < s.row.length := by simpa using hge
                                              omega
      have hrow : s.row = neuX (noBN xs) lv sos eos := nth_ext (by rw [hsr, neuX_len]) (fun j hj => s.h1 j (by omega))
      refine ⟨{ i : Nat // i ≤ xs.length }, fun i => ⟨127, [⟨0, [], .sl 0⟩, ⟨9, [], .sl 1⟩, ⟨17, [], .sl 2⟩, ⟨18, [], .v (.int .i64 (noBN (xs.take i.1)).length)⟩, ⟨19, [], .v (.int .i64 i.1)⟩], [.rd Int inferInstance 1 cE xs, .own 23 Int inferInstance 1 cE s.row, .own 23 Int inferInstance 1 cE ((neuX xs lv sos eos).take i.1)], [], dropL nats 3⟩,
        fun i => xs.length - i.1, ⟨[0, 1, 1000], ⟨0, by omega⟩, ?_⟩, fun i => ?_⟩
      · exact And.intro (And.intro rfl (And.intro rfl (And.intro rfl (And.intro rfl (And.intro rfl trivial))))) (And.intro rfl (And.intro rfl (And.intro rfl trivial)))
      obtain ⟨i, hi⟩ := i
      refine And.intro (fun hlt => ?_) (fun hge => ?_)
      · have hlt : i < xs.length := by simpa using hlt
        have hsn := noBN_snoc xs i hlt
        have htk := take_succ_nth (neuX xs lv sos eos) i (by omega)
        have hll := noBN_len (xs.take i)
        have hlt2 : (xs.take i).length ≤ i := by simp; omega
        have hlt3 : ((neuX xs lv sos eos).take i).length ≤ i := by simp; omega
        refine And.intro ⟨by (first | omega | (dsimp only at *; omega)), by (first | omega | (dsimp only at *; omega))⟩ ?_
        refine And.intro (fun he => ?_) (fun hne => ?_)
        · have he : nth xs i = 10 := by simpa using he
          rw [if_pos he] at hsn
          rw [neuX_nth _ _ _ _ _ hlt, he] at htk
          refine ⟨[(10 : Int)], And.intro rfl (And.intro rfl (fun y hy => rfl)), by show (((neuX xs lv sos eos).take i).length + 1) * 1 ≤ _; omega, ?_⟩
          exact ⟨[0, 1, 4], ⟨i + 1, hlt⟩, And.intro (And.intro rfl (And.intro rfl (And.intro rfl (And.intro (by rw [hsn]; rfl) (And.intro (sv_i64 (i64_succ i (by omega))) trivial))))) (And.intro rfl (And.intro rfl (And.intro (ownEq htk.symm) trivial))), by show _ - (i + 1) < _ - i; omega⟩
        · have hne : ¬ nth xs i = 10 := by simpa using hne
          rw [if_neg hne] at hsn
          obtain ⟨g1, g2, g3, g4⟩ := noBN_at xs i hlt hne
          rw [neuX_noBN _ _ _ _ _ hlt hne, ← hrow] at htk
          refine And.intro ⟨by (first | omega | (dsimp only at *; omega)), by (first | omega | (dsimp only at *; omega))⟩ ?_
          refine ⟨[nth s.row (noBN (xs.take i)).length], And.intro rfl (And.intro rfl (fun y hy => rfl)), by show (((neuX xs lv sos eos).take i).length + 1) * 1 ≤ _; omega, ?_⟩
          refine ⟨[0, 1, 4], ⟨i + 1, hlt⟩, And.intro (And.intro rfl (And.intro rfl (And.intro rfl (And.intro ?_ (And.intro (sv_i64 (i64_succ i (by omega))) trivial))))) (And.intro rfl (And.intro rfl (And.intro (ownEq htk.symm) trivial))), by show _ - (i + 1) < _ - i; omega⟩
          show SV.v (.int .i64 (IntKind.i64.wrap (((noBN (xs.take i)).length : Int) + 1))) = SV.v (.int .i64 ((noBN (xs.take (i + 1))).length : Nat))
          rw [hsn, i64_succ _ (by omega), List.length_append]; rfl
      · have hge : i = xs.length := by have : ¬ i < xs.length := by simpa using hge
                                       (first | omega | (dsimp only at *; omega))
        have : (neuX xs lv sos eos).take i = neuX xs lv sos eos := by rw [hge, ← hlen, List.take_length]
        refine fun ρ S w' hi => ⟨_, rfl, hi.below, ?_⟩
        have hf : Fresh w w' (ρ 2) 23 1 cE ((neuX xs lv sos eos).take i) := hi.fresh 2 cE_flat rfl rfl
        rw [this] at hf
        exact hf
end Go.Proofs.Ytcpaaekghajalaa
