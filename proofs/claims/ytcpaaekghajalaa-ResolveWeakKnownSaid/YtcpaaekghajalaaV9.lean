/- The law ResolveWeakPassed: true for every input. -/
import Derived.Test.YtcpaaekghajalaaV8
namespace Go.Proofs.Ytcpaaekghajalaa
open Go Go.Eng Go.RowKit

structure QSt (xs : List Int) (sos : Int) (i : Nat) (lim : Nat) where
  A : List Int
  B : List Int
  hA : noBN A = noBN (xs.take i)
  hB : B = mg (weakY (wS sos) (noBN xs)) 0 A
  hl : A.length ≤ lim

def QSt.bn {xs : List Int} {sos : Int} {i lim : Nat} (s : QSt xs sos i lim) : QSt xs sos i (lim + 1) where
  A := s.A ++ [10]
  B := s.B ++ [10]
  hA := by rw [← s.hA]; simp [noBN]
  hB := by rw [mg_snoc, ← s.hB]; rfl
  hl := by have := s.hl; simp; omega
def QSt.wk {xs : List Int} {sos : Int} {i lim lim' : Nat} (s : QSt xs sos i lim) (h : lim ≤ lim') : QSt xs sos i lim' := ⟨s.A, s.B, s.hA, s.hB, by have := s.hl; omega⟩
def QSt.nx {xs : List Int} {sos : Int} {i lim : Nat} (s : QSt xs sos i lim) (h : i < xs.length) : QSt xs sos (i + 1) (lim + 1) where
  A := s.A ++ [nth xs i]
  B := s.B ++ [nth (weakX xs sos) i]
  hA := by
    rw [noBN_snoc xs i h, ← s.hA, noBN, List.filter_append]
    by_cases h1 : nth xs i = 10 <;> simp [h1]
  hB := by
    rw [mg_snoc, ← s.hB, Nat.zero_add, s.hA]
    split
    · rename_i h1; rw [weakX_10 _ _ _ h h1]
    · rename_i h1; rw [weakX_at _ _ _ h h1]
  hl := by have := s.hl; simp; omega
def QSt.last {xs : List Int} {sos : Int} {i lim : Nat} (s : QSt xs sos i lim) (h : i = xs.length) : QSt xs sos (i + 1) (lim + 1) where
  A := s.A
  B := s.B
  hA := by rw [s.hA, h, List.take_length, List.take_of_length_le (by omega)]
  hB := s.hB
  hl := by have := s.hl; omega

structure QOut (xs : List Int) (sos : Int) where
  i : Nat
  hi : i ≤ xs.length + 1
  s : QSt xs sos i (i * 101)
structure QIn (xs : List Int) (sos : Int) (i n : Nat) where
  k : Nat
  hk : k ≤ n
  s : QSt xs sos i (i * 101 + k)

set_option maxHeartbeats 2000000 in
theorem lawWeakPassed_c (xs : List Int) (sos : Int) (at' : List Int) (v u : Value) (w : World) (hv : Rd w v 1 cE xs) (hu : Rd w u 1 uE at') :
    Calls Try.prog 11 #[v, .int .u8 sos, u] w fun e w' => e = .returned (.bool true) ∧ Below w.heap.size w w' := by
  refine calls_exec (cf := cf) cfok (fn := Try.f11) Try.func11 rfl [.sl 0, .v (.int .u8 sos), .sl 1] [.rd Int inferInstance 1 cE xs, .rd Int inferInstance 1 uE at'] (ρ := fun i => match i with | 0 => v | _ => u) (· < w.heap.size) rfl rfl rfl (by simp [svOkL, svOk]) (memRd (fun _ h => h) ⟨hv, hu, trivial⟩) ?_
  refine And.intro (fun h => ?_) (fun h => ?_)
  · exact Or.inl ⟨_, fun ρ S w' hm => arabic_c w', fun ρ S w' hi => ⟨rfl, hi.below⟩⟩
  have h : ¬ (xs.length : Int) > 1500 ∧ ¬ (at'.length : Int) > 100 := by simpa using h
  have hl : xs.length ≤ 1500 := by omega
  have hl2 : at'.length ≤ 100 := by omega
  have hwl := weakX_len xs sos
  refine Or.inr (lcall_fresh (weakX xs sos) (fun ρ S w' hm => weak_c xs sos _ w' (by omega) (hm.rd 0 rfl rfl)) ?_)
  refine And.intro (fun h => ?_) (fun _ => ?_)
  · have h : ¬ ((weakX xs sos).length : Int) = xs.length := by simpa using h
    omega
  refine ⟨QOut xs sos, fun s => ⟨84, [⟨0, [], .sl 0⟩, ⟨1, [], .v (.int .u8 sos)⟩, ⟨2, [], .sl 1⟩, ⟨7, [], .sl 3⟩, ⟨8, [], .sl 4⟩, ⟨9, [], .sl 2⟩, ⟨10, [], .v (.int .i64 s.i)⟩], chP xs at' (weakX xs sos) s.s.A s.s.B, [], dropL nats 5⟩,
    fun s => xs.length + 1 - s.i, ⟨[0, 1, 2, 1000, 1001], ⟨0, by omega, ⟨[], [], rfl, rfl, by simp⟩⟩, ?_⟩, fun s => ?_⟩
  · exact And.intro (And.intro rfl (And.intro rfl (And.intro rfl (And.intro rfl (And.intro rfl (And.intro rfl (And.intro rfl trivial))))))) (And.intro rfl (And.intro rfl (And.intro rfl (And.intro rfl (And.intro rfl trivial)))))
  have hsi := s.hi
  have h101 : s.i * 101 ≤ 151601 := by omega
  refine And.intro (fun hlt => ?_) (fun hge => ?_)
  · have hlt : s.i ≤ xs.length := by simpa using hlt
    refine ⟨QIn xs sos s.i at'.length, fun t => ⟨84, [⟨0, [], .sl 0⟩, ⟨1, [], .v (.int .u8 sos)⟩, ⟨2, [], .sl 1⟩, ⟨7, [], .sl 3⟩, ⟨8, [], .sl 4⟩, ⟨9, [], .sl 2⟩, ⟨10, [], .v (.int .i64 s.i)⟩, ⟨11, [], .v (.int .i64 t.k)⟩], chP xs at' (weakX xs sos) t.s.A t.s.B, [], dropL nats 5⟩,
      fun t => at'.length - t.k, ⟨[0, 1, 2, 3, 4], ⟨0, by omega, s.s⟩, ?_⟩, fun t => ?_⟩
    · exact And.intro (And.intro rfl (And.intro rfl (And.intro rfl (And.intro rfl (And.intro rfl (And.intro rfl (And.intro rfl (And.intro rfl trivial)))))))) (And.intro rfl (And.intro rfl (And.intro rfl (And.intro rfl (And.intro rfl trivial)))))
    have htk := t.hk
    have hAl := t.s.hl
    have hBl : t.s.B.length = t.s.A.length := by rw [t.s.hB, mg_len]
    refine And.intro (fun hlt2 => ?_) (fun hge2 => ?_)
    · have hlt2 : t.k < at'.length := by simpa using hlt2
      refine And.intro ⟨by omega, by omega⟩ ?_
      refine And.intro (by show IntKind.i64.wrap ((xs.length : Int) + 1) ≠ 0; rw [i64_succ _ (by omega)]; omega) ?_
      refine And.intro (fun _ => ?_) (fun _ => ?_)
      · refine ⟨[(10 : Int)], rowsRaw1 _, by show (t.s.A.length + 1) * 1 ≤ _; omega, ?_⟩
        refine ⟨[(10 : Int)], rowsRaw1 _, by show (t.s.B.length + 1) * 1 ≤ _; omega, ?_⟩
        exact ⟨[0, 1, 2, 6, 8], ⟨t.k + 1, hlt2, t.s.bn⟩, And.intro (And.intro rfl (And.intro rfl (And.intro rfl (And.intro rfl (And.intro rfl (And.intro rfl (And.intro rfl (And.intro (sv_i64 (i64_succ t.k (by omega))) trivial)))))))) (And.intro rfl (And.intro rfl (And.intro rfl (And.intro rfl (And.intro rfl trivial))))), by show _ - (t.k + 1) < _ - t.k; omega⟩
      · exact ⟨[0, 1, 2, 3, 4], ⟨t.k + 1, hlt2, t.s.wk (by omega)⟩, And.intro (And.intro rfl (And.intro rfl (And.intro rfl (And.intro rfl (And.intro rfl (And.intro rfl (And.intro rfl (And.intro (sv_i64 (i64_succ t.k (by omega))) trivial)))))))) (And.intro rfl (And.intro rfl (And.intro rfl (And.intro rfl (And.intro rfl trivial))))), by show _ - (t.k + 1) < _ - t.k; omega⟩
    · refine And.intro (fun hlt3 => ?_) (fun hge3 => ?_)
      · have hlt3 : s.i < xs.length := by simpa using hlt3
        refine And.intro ⟨by omega, by omega⟩ ?_
        refine ⟨[nth xs s.i], rowsRaw1 _, by show (t.s.A.length + 1) * 1 ≤ _; omega, ?_⟩
        refine And.intro ⟨by omega, by omega⟩ ?_
        refine ⟨[nth (weakX xs sos) s.i], rowsRaw1 _, by show (t.s.B.length + 1) * 1 ≤ _; omega, ?_⟩
        exact ⟨[0, 1, 2, 6, 8], ⟨s.i + 1, by omega, (t.s.nx hlt3).wk (by omega)⟩, And.intro (And.intro rfl (And.intro rfl (And.intro rfl (And.intro rfl (And.intro rfl (And.intro rfl (And.intro (sv_i64 (i64_succ s.i (by omega))) trivial))))))) (And.intro rfl (And.intro rfl (And.intro rfl (And.intro rfl (And.intro rfl trivial))))), by show _ - (s.i + 1) < _ - s.i; omega⟩
      · have hge3 : s.i = xs.length := by have : ¬ s.i < xs.length := by simpa using hge3
                                          omega
        exact ⟨[0, 1, 2, 3, 4], ⟨s.i + 1, by omega, (t.s.last hge3).wk (by omega)⟩, And.intro (And.intro rfl (And.intro rfl (And.intro rfl (And.intro rfl (And.intro rfl (And.intro rfl (And.intro (sv_i64 (i64_succ s.i (by omega))) trivial))))))) (And.intro rfl (And.intro rfl (And.intro rfl (And.intro rfl (And.intro rfl trivial))))), by show _ - (s.i + 1) < _ - s.i; omega⟩
  · have hge : s.i = xs.length + 1 := by have : ¬ s.i ≤ xs.length := by simpa using hge
                                         omega
    have hA := s.s.hA
    have hAl := s.s.hl
    have htk : xs.take s.i = xs := List.take_of_length_le (by omega)
    rw [htk] at hA
    have hB : s.s.B = weakX s.s.A sos := by rw [s.s.hB, ← hA]; rfl
    have hBl : s.s.B.length = s.s.A.length := by rw [hB, weakX_len]
    refine Or.inr (lcall_fresh s.s.B (fun ρ S w' hm => by rw [hB]; exact weak_c s.s.A sos _ w' (by omega) (hm.own 3 rfl rfl)) ?_)
    refine Or.inl ⟨_, fun ρ S w' hm => is_c _ _ _ _ w' (by omega) (by omega) (hm.own 5 rfl rfl) (hm.own 4 rfl rfl), ?_⟩
    refine Or.inl ⟨_, fun _ ρ S w' hm => arabic_c w', ?_⟩
    refine fun ρ S w' hi => ⟨?_, hi.below⟩
    show Ending.returned (.bool (decide (s.s.B = s.s.B) && true)) = _
    simp

end Go.Proofs.Ytcpaaekghajalaa
