/- The laws ResolvePassed and ResolveCuts: true for every input. -/
import Derived.Test.YtcpaaekghajalaaW10
namespace Go.Proofs.Ytcpaaekghajalaa
open Go Go.Eng Go.RowKit

/-- a row's classes put where it has none of BN -/
def mg (Y : List Int) : Nat → List Int → List Int
  | _, [] => []
  | k, c :: r => (if c = 10 then 10 else nth Y k) :: mg Y (if c = 10 then k else k + 1) r
theorem mg_len (Y : List Int) : ∀ k A, (mg Y k A).length = A.length
  | _, [] => rfl
  | k, c :: r => by simp [mg, mg_len Y _ r]
theorem noBN_cons (c : Int) (r : List Int) : noBN (c :: r) = if c = 10 then noBN r else c :: noBN r := by
  by_cases h : c = 10 <;> simp [noBN, h]
theorem mg_snoc (Y : List Int) (c : Int) : ∀ k A, mg Y k (A ++ [c]) = mg Y k A ++ [if c = 10 then 10 else nth Y (k + (noBN A).length)]
  | k, [] => by simp [mg, noBN]
  | k, a :: r => by
    simp only [List.cons_append, mg, mg_snoc Y c _ r, noBN_cons]
    by_cases h : a = 10
    · simp [h]
    · simp only [if_neg h, List.length_cons]
      rw [show k + 1 + (noBN r).length = k + ((noBN r).length + 1) from by omega]
theorem mg_nth (Y : List Int) : ∀ k A i, i < A.length → nth (mg Y k A) i = if nth A i = 10 then 10 else nth Y (k + (noBN (A.take i)).length)
  | k, [], i, h => by simp at h
  | k, a :: r, 0, h => by
    simp only [mg, nth_cons0, List.take_zero]
    rfl
  | k, a :: r, i + 1, h => by
    simp only [mg, nth_consS, List.take_succ_cons, noBN_cons]
    rw [mg_nth Y _ r i (by simpa using h)]
    by_cases h1 : a = 10
    · simp [h1]
    · simp only [if_neg h1, List.length_cons]
      rw [show k + 1 + (noBN (r.take i)).length = k + ((noBN (r.take i)).length + 1) from by omega]
theorem neuX_10 (xs : List Int) (lv sos eos : Int) (i : Nat) (h : i < xs.length) (h10 : nth xs i = 10) : nth (neuX xs lv sos eos) i = 10 := by
  rw [neuX_nth _ _ _ _ _ h, h10, neu10]; rfl
theorem neuX_mg (A : List Int) (lv sos eos : Int) : neuX A lv sos eos = mg (neuX (noBN A) lv sos eos) 0 A := by
  refine nth_ext (by rw [neuX_len, mg_len]) fun i hi => ?_
  rw [neuX_len] at hi
  rw [mg_nth _ _ _ _ hi, Nat.zero_add]
  split
  · rename_i h; exact neuX_10 _ _ _ _ _ hi h
  · rename_i h; exact neuX_noBN _ _ _ _ _ hi h

abbrev uE : Int → List DV := fun n => [.v (.int .u16 n)]

structure PSt (xs : List Int) (lv sos eos : Int) (i : Nat) (lim : Nat) where
  A : List Int
  B : List Int
  hA : noBN A = noBN (xs.take i)
  hB : B = mg (neuX (noBN xs) lv sos eos) 0 A
  hl : A.length ≤ lim

def PSt.bn {xs : List Int} {lv sos eos : Int} {i lim : Nat} (s : PSt xs lv sos eos i lim) : PSt xs lv sos eos i (lim + 1) where
  A := s.A ++ [10]
  B := s.B ++ [10]
  hA := by rw [← s.hA]; simp [noBN]
  hB := by rw [mg_snoc, ← s.hB]; rfl
  hl := by have := s.hl; simp; omega
def PSt.wk {xs : List Int} {lv sos eos : Int} {i lim lim' : Nat} (s : PSt xs lv sos eos i lim) (h : lim ≤ lim') : PSt xs lv sos eos i lim' := ⟨s.A, s.B, s.hA, s.hB, by have := s.hl; omega⟩
def PSt.nx {xs : List Int} {lv sos eos : Int} {i lim : Nat} (s : PSt xs lv sos eos i lim) (h : i < xs.length) : PSt xs lv sos eos (i + 1) (lim + 1) where
  A := s.A ++ [nth xs i]
  B := s.B ++ [nth (neuX xs lv sos eos) i]
  hA := by
    rw [noBN_snoc xs i h, ← s.hA, noBN, List.filter_append]
    by_cases h1 : nth xs i = 10 <;> simp [h1]
  hB := by
    rw [mg_snoc, ← s.hB, Nat.zero_add, s.hA]
    split
    · rename_i h1; rw [neuX_10 _ _ _ _ _ h h1]
    · rename_i h1; rw [neuX_noBN _ _ _ _ _ h h1]
  hl := by have := s.hl; simp; omega
def PSt.last {xs : List Int} {lv sos eos : Int} {i lim : Nat} (s : PSt xs lv sos eos i lim) (h : i = xs.length) : PSt xs lv sos eos (i + 1) (lim + 1) where
  A := s.A
  B := s.B
  hA := by rw [s.hA, h, List.take_length, List.take_of_length_le (by omega)]
  hB := s.hB
  hl := by have := s.hl; omega

structure POut (xs : List Int) (lv sos eos : Int) where
  i : Nat
  hi : i ≤ xs.length + 1
  s : PSt xs lv sos eos i (i * 101)
structure PIn (xs : List Int) (lv sos eos : Int) (i n : Nat) where
  k : Nat
  hk : k ≤ n
  s : PSt xs lv sos eos i (i * 101 + k)

def chP (xs at' W A B : List Int) : List Chunk := [.rd Int inferInstance 1 cE xs, .rd Int inferInstance 1 uE at', .own 23 Int inferInstance 1 cE W, .own 23 Int inferInstance 1 cE A, .own 23 Int inferInstance 1 cE B]

set_option maxHeartbeats 2000000 in
theorem lawPassed_c (xs : List Int) (lv sos eos : Int) (at' : List Int) (v u : Value) (w : World) (hlv : 0 ≤ lv ∧ lv ≤ 255) (hv : Rd w v 1 cE xs) (hu : Rd w u 1 uE at') :
    Calls Try.prog 6 #[v, .int .u8 lv, .int .u8 sos, .int .u8 eos, u] w fun e w' => e = .returned (.bool true) ∧ Below w.heap.size w w' := by
  refine calls_exec (cf := cf) cfok (fn := Try.f6) Try.func6 rfl [.sl 0, .v (.int .u8 lv), .v (.int .u8 sos), .v (.int .u8 eos), .sl 1] [.rd Int inferInstance 1 cE xs, .rd Int inferInstance 1 uE at'] (ρ := fun i => match i with | 0 => v | _ => u) (· < w.heap.size) rfl rfl rfl (by simp [svOkL, svOk]) (memRd (fun _ h => h) ⟨hv, hu, trivial⟩) ?_
  refine And.intro (fun h => ?_) (fun h => ?_)
  · exact Or.inl ⟨_, fun ρ S w' hm => works_c w', fun ρ S w' hi => ⟨rfl, hi.below⟩⟩
  have h : ¬ (xs.length : Int) > 1500 ∧ ¬ (at'.length : Int) > 100 := by simpa using h
  have hl : xs.length ≤ 1500 := by omega
  have hl2 : at'.length ≤ 100 := by omega
  have hwl := neuX_len xs lv sos eos
  refine Or.inr (lcall_fresh (neuX xs lv sos eos) (fun ρ S w' hm => neu_c xs lv sos eos _ w' (by omega) hlv (hm.rd 0 rfl rfl)) ?_)
  refine And.intro (fun h => ?_) (fun _ => ?_)
  · have h : ¬ ((neuX xs lv sos eos).length : Int) = xs.length := by simpa using h
    omega
  refine ⟨POut xs lv sos eos, fun s => ⟨92, [⟨0, [], .sl 0⟩, ⟨1, [], .v (.int .u8 lv)⟩, ⟨2, [], .v (.int .u8 sos)⟩, ⟨3, [], .v (.int .u8 eos)⟩, ⟨4, [], .sl 1⟩, ⟨11, [], .sl 3⟩, ⟨12, [], .sl 4⟩, ⟨13, [], .sl 2⟩, ⟨14, [], .v (.int .i64 s.i)⟩], chP xs at' (neuX xs lv sos eos) s.s.A s.s.B, [], dropL nats 5⟩,
    fun s => xs.length + 1 - s.i, ⟨[0, 1, 2, 1000, 1001], ⟨0, by omega, ⟨[], [], rfl, rfl, by simp⟩⟩, ?_⟩, fun s => ?_⟩
  · exact And.intro (And.intro rfl (And.intro rfl (And.intro rfl (And.intro rfl (And.intro rfl (And.intro rfl (And.intro rfl (And.intro rfl (And.intro rfl trivial))))))))) (And.intro rfl (And.intro rfl (And.intro rfl (And.intro rfl (And.intro rfl trivial)))))
  have hsi := s.hi
  have h101 : s.i * 101 ≤ 151601 := by omega
  refine And.intro (fun hlt => ?_) (fun hge => ?_)
  · have hlt : s.i ≤ xs.length := by simpa using hlt
    refine ⟨PIn xs lv sos eos s.i at'.length, fun t => ⟨92, [⟨0, [], .sl 0⟩, ⟨1, [], .v (.int .u8 lv)⟩, ⟨2, [], .v (.int .u8 sos)⟩, ⟨3, [], .v (.int .u8 eos)⟩, ⟨4, [], .sl 1⟩, ⟨11, [], .sl 3⟩, ⟨12, [], .sl 4⟩, ⟨13, [], .sl 2⟩, ⟨14, [], .v (.int .i64 s.i)⟩, ⟨15, [], .v (.int .i64 t.k)⟩], chP xs at' (neuX xs lv sos eos) t.s.A t.s.B, [], dropL nats 5⟩,
      fun t => at'.length - t.k, ⟨[0, 1, 2, 3, 4], ⟨0, by omega, s.s⟩, ?_⟩, fun t => ?_⟩
    · exact And.intro (And.intro rfl (And.intro rfl (And.intro rfl (And.intro rfl (And.intro rfl (And.intro rfl (And.intro rfl (And.intro rfl (And.intro rfl (And.intro rfl trivial)))))))))) (And.intro rfl (And.intro rfl (And.intro rfl (And.intro rfl (And.intro rfl trivial)))))
    have htk := t.hk
    have hAl := t.s.hl
    have hBl : t.s.B.length = t.s.A.length := by rw [t.s.hB, mg_len]
    refine And.intro (fun hlt2 => ?_) (fun hge2 => ?_)
    · have hlt2 : t.k < at'.length := by simpa using hlt2
      refine And.intro ⟨by omega, by omega⟩ ?_
      refine And.intro (by show IntKind.i64.wrap ((xs.length : Int) + 1) ≠ 0; rw [i64_succ _ (by omega)]; omega) ?_
      refine And.intro (fun _ => ?_) (fun _ => ?_)
      · refine ⟨[(10 : Int)], rowsRaw1 _, by show (t.s.A.length + 1) * 1 ≤ _; omega, ?_⟩
        refine ⟨[(10 : Int)], rowsRaw1 _, by show (t.s.B.length + 1) * 1 ≤ _; omega, ?_⟩
        exact ⟨[0, 1, 2, 6, 8], ⟨t.k + 1, hlt2, t.s.bn⟩, And.intro (And.intro rfl (And.intro rfl (And.intro rfl (And.intro rfl (And.intro rfl (And.intro rfl (And.intro rfl (And.intro rfl (And.intro rfl (And.intro (sv_i64 (i64_succ t.k (by omega))) trivial)))))))))) (And.intro rfl (And.intro rfl (And.intro rfl (And.intro rfl (And.intro rfl trivial))))), by show _ - (t.k + 1) < _ - t.k; omega⟩
      · exact ⟨[0, 1, 2, 3, 4], ⟨t.k + 1, hlt2, t.s.wk (by omega)⟩, And.intro (And.intro rfl (And.intro rfl (And.intro rfl (And.intro rfl (And.intro rfl (And.intro rfl (And.intro rfl (And.intro rfl (And.intro rfl (And.intro (sv_i64 (i64_succ t.k (by omega))) trivial)))))))))) (And.intro rfl (And.intro rfl (And.intro rfl (And.intro rfl (And.intro rfl trivial))))), by show _ - (t.k + 1) < _ - t.k; omega⟩
    · refine And.intro (fun hlt3 => ?_) (fun hge3 => ?_)
      · have hlt3 : s.i < xs.length := by simpa using hlt3
        refine And.intro ⟨by omega, by omega⟩ ?_
        refine ⟨[nth xs s.i], rowsRaw1 _, by show (t.s.A.length + 1) * 1 ≤ _; omega, ?_⟩
        refine And.intro ⟨by omega, by omega⟩ ?_
        refine ⟨[nth (neuX xs lv sos eos) s.i], rowsRaw1 _, by show (t.s.B.length + 1) * 1 ≤ _; omega, ?_⟩
        exact ⟨[0, 1, 2, 6, 8], ⟨s.i + 1, by omega, (t.s.nx hlt3).wk (by omega)⟩, And.intro (And.intro rfl (And.intro rfl (And.intro rfl (And.intro rfl (And.intro rfl (And.intro rfl (And.intro rfl (And.intro rfl (And.intro (sv_i64 (i64_succ s.i (by omega))) trivial))))))))) (And.intro rfl (And.intro rfl (And.intro rfl (And.intro rfl (And.intro rfl trivial))))), by show _ - (s.i + 1) < _ - s.i; omega⟩
      · have hge3 : s.i = xs.length := by have : ¬ s.i < xs.length := by simpa using hge3
                                          omega
        exact ⟨[0, 1, 2, 3, 4], ⟨s.i + 1, by omega, (t.s.last hge3).wk (by omega)⟩, And.intro (And.intro rfl (And.intro rfl (And.intro rfl (And.intro rfl (And.intro rfl (And.intro rfl (And.intro rfl (And.intro rfl (And.intro (sv_i64 (i64_succ s.i (by omega))) trivial))))))))) (And.intro rfl (And.intro rfl (And.intro rfl (And.intro rfl (And.intro rfl trivial))))), by show _ - (s.i + 1) < _ - s.i; omega⟩
  · have hge : s.i = xs.length + 1 := by have : ¬ s.i ≤ xs.length := by simpa using hge
                                         omega
    have hA := s.s.hA
    have hAl := s.s.hl
    have htk : xs.take s.i = xs := List.take_of_length_le (by omega)
    rw [htk] at hA
    have hB : s.s.B = neuX s.s.A lv sos eos := by rw [s.s.hB, neuX_mg s.s.A, hA]
    have hBl : s.s.B.length = s.s.A.length := by rw [hB, neuX_len]
    refine Or.inr (lcall_fresh s.s.B (fun ρ S w' hm => by rw [hB]; exact neu_c s.s.A lv sos eos _ w' (by omega) hlv (hm.own 3 rfl rfl)) ?_)
    refine Or.inl ⟨_, fun ρ S w' hm => is_c _ _ _ _ w' (by omega) (by omega) (hm.own 5 rfl rfl) (hm.own 4 rfl rfl), ?_⟩
    refine Or.inl ⟨_, fun _ ρ S w' hm => works_c w', ?_⟩
    refine fun ρ S w' hi => ⟨?_, hi.below⟩
    show Ending.returned (.bool (decide (s.s.B = s.s.B) && true)) = _
    simp

end Go.Proofs.Ytcpaaekghajalaa
