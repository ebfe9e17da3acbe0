/- calamusref11.Weak: it computes weakX, for every row. -/
import Derived.Test.YtcpaaekghajalaaW17
namespace Go.Proofs.Ytcpaaekghajalaa
open Go Go.Eng Go.RowKit

def wS (s : Int) : Int := if s = 2 then 2 else 1
def weakY (s : Int) (ys : List Int) : List Int := w7F s (w56F (w4F 10 (w2F s (w1F s ys))))
def weakX (xs : List Int) (sos : Int) : List Int := mg (weakY (wS sos) (noBN xs)) 0 xs
theorem w1F_len (s : Int) (xs : List Int) : (w1F s xs).length = xs.length := scan_len _ _ _ _
theorem w2F_len (s : Int) (xs : List Int) : (w2F s xs).length = xs.length := by simp [w2F, scan_len]
theorem w56F_len (xs : List Int) : (w56F xs).length = xs.length := by simp [w56F, w5F_len]
theorem weakY_len (s : Int) (ys : List Int) : (weakY s ys).length = ys.length := by
  unfold weakY w7F; rw [scan_len, w56F_len, w4F_len, w2F_len, w1F_len]
theorem weakX_len (xs : List Int) (sos : Int) : (weakX xs sos).length = xs.length := mg_len _ _ _

set_option maxHeartbeats 2000000 in
theorem refWeak_c (xs : List Int) (sos : Int) (v : Value) (w : World) (hl : xs.length ≤ 1000000) (hv : Rd w v 1 cE xs) :
    Calls Try.prog 26 #[v, .int .u8 sos] w fun e w' => ∃ u, e = .returned u ∧ Below w.heap.size w w' ∧ Fresh w w' u 23 1 cE (weakX xs sos) := by
  refine calls_exec (cf := cf) cfok (fn := Try.f26) Try.func26 rfl [.sl 0, .v (.int .u8 sos)] [.rd Int inferInstance 1 cE xs] (ρ := fun _ => v) (· < w.heap.size) rfl rfl rfl (by simp [svOkL, svOk]) (memRd (fun _ h => h) ⟨hv, trivial⟩) ?_
  have hlen := weakX_len xs sos
  refine ⟨{ i : Nat // i ≤ xs.length }, fun i => ⟨67, [⟨0, [], .sl 0⟩, ⟨1, [], .v (.int .u8 sos)⟩, ⟨5, [], .sl 1⟩, ⟨6, [], .v (.int .i64 i.1)⟩], [.rd Int inferInstance 1 cE xs, ow (noBN (xs.take i.1))], [], dropL nats 2⟩,
    fun i => xs.length - i.1, ⟨[0, 1000], ⟨0, by omega⟩, ?_⟩, fun i => ?_⟩
  · exact And.intro (And.intro rfl (And.intro rfl (And.intro rfl (And.intro rfl trivial)))) (And.intro rfl (And.intro rfl trivial))
  obtain ⟨i, hi⟩ := i
  refine And.intro (fun hlt => ?_) (fun hge => ?_)
  · have hlt : i < xs.length := by simpa using hlt
    have hsn := noBN_snoc xs i hlt
    have hll := noBN_len (xs.take i)
    have hlt2 : (xs.take i).length ≤ i := by simp; omega
    refine And.intro ⟨by (first | omega | (dsimp only at *; omega)), by (first | omega | (dsimp only at *; omega))⟩ ?_
    refine And.intro (fun hne => ?_) (fun he => ?_)
    · have hne : ¬ nth xs i = 10 := by simpa using hne
      rw [if_neg hne] at hsn
      refine And.intro ⟨by (first | omega | (dsimp only at *; omega)), by (first | omega | (dsimp only at *; omega))⟩ ?_
      refine ⟨[nth xs i], rowsRaw1 _, by show ((noBN (xs.take i)).length + 1) * 1 ≤ _; omega, ?_⟩
      exact ⟨[0, 3], ⟨i + 1, hlt⟩, And.intro (And.intro rfl (And.intro rfl (And.intro rfl (And.intro (sv_i64 (i64_succ i (by omega))) trivial)))) (And.intro rfl (And.intro (ownEq hsn.symm) trivial)), by show _ - (i + 1) < _ - i; omega⟩
    · have he : nth xs i = 10 := by simpa using he
      rw [if_pos he] at hsn
      exact ⟨[0, 1], ⟨i + 1, hlt⟩, And.intro (And.intro rfl (And.intro rfl (And.intro rfl (And.intro (sv_i64 (i64_succ i (by omega))) trivial)))) (And.intro rfl (And.intro (ownEq hsn.symm) trivial)), by show _ - (i + 1) < _ - i; omega⟩
  have hge : i = xs.length := by have : ¬ i < xs.length := by simpa using hge
                                 (first | omega | (dsimp only at *; omega))
  subst hge
  have hys : noBN (xs.take xs.length) = noBN xs := by rw [List.take_length]
  have hyl : (noBN (xs.take xs.length)).length ≤ 1000000 := by rw [hys]; have := noBN_len xs; omega
  obtain ⟨Z, hZ⟩ : ∃ Z, Z = noBN (xs.take xs.length) := ⟨_, rfl⟩
  rw [← hZ] at hyl hys
  have hYl := weakY_len (wS sos) (noBN xs)
  obtain ⟨Y, hY⟩ : ∃ Y, Y = weakY (wS sos) (noBN xs) := ⟨_, rfl⟩
  rw [← hY] at hYl
  have hX : weakX xs sos = mg Y 0 xs := by rw [hY]; rfl
  have hXn : ∀ i, i < xs.length → nth (mg Y 0 xs) i = if nth xs i = 10 then 10 else nth Y (noBN (xs.take i)).length := fun i hi => by rw [mg_nth _ _ _ _ hi, Nat.zero_add]
  have hXl : (mg Y 0 xs).length = xs.length := mg_len _ _ _
  refine And.intro (fun hs => ?_) (fun hs => ?_)
  case' refine_1 =>
    have hws : wS sos = 1 := by have : ¬ sos = 2 := by simpa using hs
                                simp [wS, this]
    have hch : ow (w7F 1 (w56F (w4F 10 (w2F 1 (w1F 1 (noBN (xs.take xs.length))))))) = ow Y := by rw [hY, hws, List.take_length]; rfl
    refine Or.inr (lcall_sub [1] (w1_s (noBN (xs.take xs.length)) 1 (by rw [← hZ]; exact hyl)) rfl rfl rfl rfl rfl (And.intro rfl trivial) ?_)
    refine Or.inr (lcall_sub [1] (w2_s (w1F 1 (noBN (xs.take xs.length))) 1 (by rw [w1F_len, ← hZ]; exact hyl)) rfl rfl rfl rfl rfl (And.intro rfl trivial) ?_)
    refine Or.inr (lcall_sub [1] (w4_s (w2F 1 (w1F 1 (noBN (xs.take xs.length)))) (by rw [w2F_len, w1F_len, ← hZ]; exact hyl)) rfl rfl rfl rfl rfl (And.intro rfl trivial) ?_)
    refine Or.inr (lcall_sub [1] (w5_s (w4F 10 (w2F 1 (w1F 1 (noBN (xs.take xs.length))))) (by rw [w4F_len, w2F_len, w1F_len, ← hZ]; exact hyl)) rfl rfl rfl rfl rfl (And.intro rfl trivial) ?_)
    refine Or.inr (lcall_sub [1] (w7_s (w56F (w4F 10 (w2F 1 (w1F 1 (noBN (xs.take xs.length)))))) 1 (by rw [w56F_len, w4F_len, w2F_len, w1F_len, ← hZ]; exact hyl)) rfl rfl rfl rfl rfl (And.intro rfl trivial) ?_)
  case' refine_2 =>
    have hws : wS sos = sos := by have : sos = 2 := by simpa using hs
                                  simp [wS, this]
    have hch : ow (w7F sos (w56F (w4F 10 (w2F sos (w1F sos (noBN (xs.take xs.length))))))) = ow Y := by rw [hY, hws, List.take_length]; rfl
    refine Or.inr (lcall_sub [1] (w1_s (noBN (xs.take xs.length)) sos (by rw [← hZ]; exact hyl)) rfl rfl rfl rfl rfl (And.intro rfl trivial) ?_)
    refine Or.inr (lcall_sub [1] (w2_s (w1F sos (noBN (xs.take xs.length))) sos (by rw [w1F_len, ← hZ]; exact hyl)) rfl rfl rfl rfl rfl (And.intro rfl trivial) ?_)
    refine Or.inr (lcall_sub [1] (w4_s (w2F sos (w1F sos (noBN (xs.take xs.length)))) (by rw [w2F_len, w1F_len, ← hZ]; exact hyl)) rfl rfl rfl rfl rfl (And.intro rfl trivial) ?_)
    refine Or.inr (lcall_sub [1] (w5_s (w4F 10 (w2F sos (w1F sos (noBN (xs.take xs.length))))) (by rw [w4F_len, w2F_len, w1F_len, ← hZ]; exact hyl)) rfl rfl rfl rfl rfl (And.intro rfl trivial) ?_)
    refine Or.inr (lcall_sub [1] (w7_s (w56F (w4F 10 (w2F sos (w1F sos (noBN (xs.take xs.length)))))) sos (by rw [w56F_len, w4F_len, w2F_len, w1F_len, ← hZ]; exact hyl)) rfl rfl rfl rfl rfl (And.intro rfl trivial) ?_)
  all_goals
    refine ⟨{ i : Nat // i ≤ xs.length }, fun i => ⟨67, [⟨0, [], .sl 0⟩, ⟨5, [], .sl 1⟩, ⟨7, [], .sl 2⟩, ⟨8, [], .v (.int .i64 (noBN (xs.take i.1)).length)⟩, ⟨9, [], .v (.int .i64 i.1)⟩], [.rd Int inferInstance 1 cE xs, ow Y, ow ((mg Y 0 xs).take i.1)], [], dropL nats 3⟩,
      fun i => xs.length - i.1, ⟨[0, 1, 1000], ⟨0, by omega⟩, ?_⟩, fun i => ?_⟩
    · exact And.intro (And.intro rfl (And.intro rfl (And.intro rfl (And.intro rfl (And.intro rfl trivial))))) (And.intro rfl (And.intro hch (And.intro rfl trivial)))
    obtain ⟨i, hi⟩ := i
    refine And.intro (fun hlt => ?_) (fun hge => ?_)
    · have hlt : i < xs.length := by simpa using hlt
      have hsn := noBN_snoc xs i hlt
      have htk := take_succ_nth (mg Y 0 xs) i (by omega)
      rw [hXn i hlt] at htk
      have hll := noBN_len (xs.take i)
      have hlt2 : (xs.take i).length ≤ i := by simp; omega
      have hlt3 : ((mg Y 0 xs).take i).length ≤ i := by simp; omega
      refine And.intro ⟨by (first | omega | (dsimp only at *; omega)), by (first | omega | (dsimp only at *; omega))⟩ ?_
      refine And.intro (fun he => ?_) (fun hne => ?_)
      · have he : nth xs i = 10 := by simpa using he
        rw [if_pos he] at hsn htk
        refine ⟨[(10 : Int)], rowsRaw1 _, by show (((mg Y 0 xs).take i).length + 1) * 1 ≤ _; omega, ?_⟩
        exact ⟨[0, 1, 4], ⟨i + 1, hlt⟩, And.intro (And.intro rfl (And.intro rfl (And.intro rfl (And.intro (by rw [hsn]; rfl) (And.intro (sv_i64 (i64_succ i (by omega))) trivial))))) (And.intro rfl (And.intro rfl (And.intro (ownEq htk.symm) trivial))), by show _ - (i + 1) < _ - i; omega⟩
      · have hne : ¬ nth xs i = 10 := by simpa using hne
        rw [if_neg hne] at hsn htk
        obtain ⟨g1, _⟩ := noBN_at xs i hlt hne
        refine And.intro ⟨by (first | omega | (dsimp only at *; omega)), by (first | omega | (dsimp only at *; omega))⟩ ?_
        refine ⟨[nth Y (noBN (xs.take i)).length], rowsRaw1 _, by show (((mg Y 0 xs).take i).length + 1) * 1 ≤ _; omega, ?_⟩
        refine ⟨[0, 1, 4], ⟨i + 1, hlt⟩, And.intro (And.intro rfl (And.intro rfl (And.intro rfl (And.intro ?_ (And.intro (sv_i64 (i64_succ i (by omega))) trivial))))) (And.intro rfl (And.intro rfl (And.intro (ownEq htk.symm) trivial))), by show _ - (i + 1) < _ - i; omega⟩
        show SV.v (.int .i64 (IntKind.i64.wrap (((noBN (xs.take i)).length : Int) + 1))) = SV.v (.int .i64 ((noBN (xs.take (i + 1))).length : Nat))
        rw [hsn, i64_succ _ (by omega), List.length_append]; rfl
    · have hge : i = xs.length := by have : ¬ i < xs.length := by simpa using hge
                                     (first | omega | (dsimp only at *; omega))
      have hfin : (mg Y 0 xs).take i = weakX xs sos := by rw [hX, hge, ← hXl, List.take_length]
      refine fun ρ S w' hi => ⟨_, rfl, hi.below, ?_⟩
      have hf : Fresh w w' (ρ 2) 23 1 cE ((mg Y 0 xs).take i) := hi.fresh 2 cE_flat rfl rfl
      rw [hfin] at hf
      exact hf
end Go.Proofs.Ytcpaaekghajalaa
