/- The law ResolveWeakKnown: true. -/
import Derived.Test.YtcpaaekghajalaaV11
namespace Go.Proofs.Ytcpaaekghajalaa
open Go Go.Eng Go.RowKit

structure KnW (n : Nat) where
  l : List Int
  hl : l.length = n
structure KaW where
  a : Nat
  h1 : 1 ≤ a
  h2 : a ≤ 24
  l : List Int
  hl : l.length = (a - 1) * 828
structure KbW (a : Nat) where
  b : Nat
  h1 : 1 ≤ b
  h2 : b ≤ 24
  l : List Int
  hl : l.length = (a - 1) * 828 + (b - 1) * 36
structure KcW (a b : Nat) where
  c : Nat
  h2 : c ≤ 12
  l : List Int
  hl : l.length = (a - 1) * 828 + (b - 1) * 36 + 3 * c
theorem u8_nat (n m : Nat) (h : n + m ≤ 255) : IntKind.u8.wrap ((n : Int) + (m : Int)) = ((n + m : Nat) : Int) := by rw [u8_id _ (by omega) (by omega)]; rfl

set_option maxHeartbeats 4000000 in
set_option maxRecDepth 100000 in
theorem lawWeakKnown_c (w : World) : Calls Try.prog 14 #[] w fun e w' => e = .returned (.bool true) ∧ Below w.heap.size w w' := by
  refine calls_exec (cf := cf) cfok (fn := Try.f14) Try.func14 rfl [] [] (ρ := fun _ => undef) (· < w.heap.size) rfl rfl rfl (by simp [svOkL]) (memNil fun _ h => h) ?_
  refine Or.inr (lcall_fresh [2, 21, 14, 23, 14] (fun ρ S w' hm => weak_l [9, 21, 9, 23, 9] 2 _ (by decide +kernel) _ w' (by decide) (hm.raw 0 rfl rfl [9, 21, 9, 23, 9] (List.flatMap cE [9, 21, 9, 23, 9]) rfl rfl rfl (fun y _ => rfl))) ?_)
  refine Or.inl ⟨_, fun ρ S w' hm => is_t [2, 21, 14, 23, 14] _ _ w' (by decide) (hm.own 1 rfl rfl) (hm.raw 2 rfl rfl [2, 21, 14, 23, 14] (List.flatMap cE [2, 21, 14, 23, 14]) rfl rfl rfl (fun y _ => rfl)), ?_⟩
  refine Or.inr (Or.inl ⟨And.intro rfl trivial, ?_⟩)
  refine Or.inr (Or.inl ⟨And.intro rfl trivial, ?_⟩)
  refine Or.inr (lcall_fresh [1, 1, 1, 1, 1, 1, 1] (fun ρ S w' hm => weak_l [1, 4, 8, 4, 5, 4, 6] 2 _ (by decide +kernel) _ w' (by decide) (hm.raw 3 rfl rfl [1, 4, 8, 4, 5, 4, 6] (List.flatMap cE [1, 4, 8, 4, 5, 4, 6]) rfl rfl rfl (fun y _ => rfl))) ?_)
  refine Or.inr (Or.inl ⟨And.intro rfl trivial, ?_⟩)
  refine Or.inl ⟨_, fun _ ρ S w' hm => is_t [1, 1, 1, 1, 1, 1, 1] _ _ w' (by decide) (hm.own 4 rfl rfl) (hm.raw 5 rfl rfl [1, 1, 1, 1, 1, 1, 1] (List.flatMap cE [1, 1, 1, 1, 1, 1, 1]) rfl rfl rfl (fun y _ => rfl)), ?_⟩
  refine Or.inr (Or.inl ⟨And.intro rfl trivial, ?_⟩)
  refine Or.inr (Or.inl ⟨And.intro rfl trivial, ?_⟩)
  refine Or.inr (lcall_fresh [2, 4, 14, 7, 4, 4, 4, 4] (fun ρ S w' hm => weak_l [2, 4, 8, 7, 6, 6, 4, 6] 1 _ (by decide +kernel) _ w' (by decide) (hm.raw 6 rfl rfl [2, 4, 8, 7, 6, 6, 4, 6] (List.flatMap cE [2, 4, 8, 7, 6, 6, 4, 6]) rfl rfl rfl (fun y _ => rfl))) ?_)
  refine Or.inr (Or.inl ⟨And.intro rfl trivial, ?_⟩)
  refine Or.inl ⟨_, fun _ ρ S w' hm => is_t [2, 4, 14, 7, 4, 4, 4, 4] _ _ w' (by decide) (hm.own 7 rfl rfl) (hm.raw 8 rfl rfl [2, 4, 14, 7, 4, 4, 4, 4] (List.flatMap cE [2, 4, 14, 7, 4, 4, 4, 4]) rfl rfl rfl (fun y _ => rfl)), ?_⟩
  refine Or.inr (lcall_fresh [1, 10, 1, 10, 1, 10, 1] (fun ρ S w' hm => weak_l [4, 10, 8, 10, 4, 10, 6] 1 _ (by decide +kernel) _ w' (by decide) (hm.raw 9 rfl rfl [4, 10, 8, 10, 4, 10, 6] (List.flatMap cE [4, 10, 8, 10, 4, 10, 6]) rfl rfl rfl (fun y _ => rfl))) ?_)
  refine Or.inl ⟨_, fun ρ S w' hm => is_t [1, 10, 1, 10, 1, 10, 1] _ _ w' (by decide) (hm.own 10 rfl rfl) (hm.raw 11 rfl rfl [1, 10, 1, 10, 1, 10, 1] (List.flatMap cE [1, 10, 1, 10, 1, 10, 1]) rfl rfl rfl (fun y _ => rfl)), ?_⟩
  refine Or.inr (Or.inl ⟨And.intro rfl trivial, ?_⟩)
  refine Or.inr (Or.inl ⟨And.intro rfl trivial, ?_⟩)
  refine Or.inr (lcall_fresh [14, 10, 14, 14] (fun ρ S w' hm => weak_l [6, 10, 6, 5] 2 _ (by decide +kernel) _ w' (by decide) (hm.raw 12 rfl rfl [6, 10, 6, 5] (List.flatMap cE [6, 10, 6, 5]) rfl rfl rfl (fun y _ => rfl))) ?_)
  refine Or.inr (Or.inl ⟨And.intro rfl trivial, ?_⟩)
  refine Or.inl ⟨_, fun _ ρ S w' hm => is_t [14, 10, 14, 14] _ _ w' (by decide) (hm.own 13 rfl rfl) (hm.raw 14 rfl rfl [14, 10, 14, 14] (List.flatMap cE [14, 10, 14, 14]) rfl rfl rfl (fun y _ => rfl)), ?_⟩
  refine Or.inr (Or.inl ⟨And.intro rfl trivial, ?_⟩)
  refine Or.inr (lcall_fresh ([] : List Int) (fun ρ S w' hm => weak_l [] 1 _ (by decide +kernel) _ w' (by decide) (rd_nil w')) ?_)
  refine ⟨KaW, fun s => ⟨92, [⟨1, [], .v (.bool true)⟩, ⟨2, [], .v (.bool true)⟩, ⟨3, [], .sl 0⟩, ⟨4, [], .v (.int .u8 s.a)⟩], [ow s.l], [], dropL nats 1⟩, fun s => 24 - s.a, ⟨[1000], ⟨1, by omega, by omega, [], rfl⟩, ?_⟩, fun s => ?_⟩
  · exact And.intro (And.intro rfl (And.intro rfl (And.intro rfl (And.intro rfl trivial)))) (And.intro rfl trivial)
  have ha1 := s.h1
  have ha2 := s.h2
  have hla := s.hl
  refine And.intro (fun hlt => ?_) (fun hge => ?_)
  · have hlt : s.a ≤ 23 := by have : (s.a : Int) ≤ 23 := by simpa using hlt
                              omega
    refine ⟨KbW s.a, fun q => ⟨92, [⟨1, [], .v (.bool true)⟩, ⟨2, [], .v (.bool true)⟩, ⟨3, [], .sl 0⟩, ⟨4, [], .v (.int .u8 s.a)⟩, ⟨5, [], .v (.int .u8 q.b)⟩], [ow q.l], [], dropL nats 1⟩, fun q => 24 - q.b, ⟨[0], ⟨1, by omega, by omega, s.l, by rw [hla]; omega⟩, ?_⟩, fun q => ?_⟩
    · exact And.intro (And.intro rfl (And.intro rfl (And.intro rfl (And.intro rfl (And.intro rfl trivial))))) (And.intro rfl trivial)
    have hb1 := q.h1
    have hb2 := q.h2
    have hlb := q.hl
    refine And.intro (fun hltb => ?_) (fun hgeb => ?_)
    · have hltb : q.b ≤ 23 := by have : (q.b : Int) ≤ 23 := by simpa using hltb
                                 omega
      refine ⟨KcW s.a q.b, fun z => ⟨92, [⟨1, [], .v (.bool true)⟩, ⟨2, [], .v (.bool true)⟩, ⟨3, [], .sl 0⟩, ⟨4, [], .v (.int .u8 s.a)⟩, ⟨5, [], .v (.int .u8 q.b)⟩, ⟨6, [], .v (.int .u8 ((1 + 2 * z.c : Nat) : Int))⟩], [ow z.l], [], dropL nats 1⟩, fun z => 12 - z.c, ⟨[0], ⟨0, by omega, q.l, by rw [hlb]; omega⟩, ?_⟩, fun z => ?_⟩
      · exact And.intro (And.intro rfl (And.intro rfl (And.intro rfl (And.intro rfl (And.intro rfl (And.intro rfl trivial)))))) (And.intro rfl trivial)
      have hc2 := z.h2
      have hlc := z.hl
      refine And.intro (fun hltc => ?_) (fun hgec => ?_)
      · have hltc : z.c < 12 := by have : ((1 + 2 * z.c : Nat) : Int) ≤ 23 := by simpa using hltc
                                   omega
        refine ⟨[(s.a : Int), (q.b : Int), ((1 + 2 * z.c : Nat) : Int)], And.intro rfl (And.intro rfl (fun y hy => rfl)), by show (z.l.length + 3) * 1 ≤ _; omega, ?_⟩
        exact ⟨[2], ⟨z.c + 1, hltc, z.l ++ [(s.a : Int), (q.b : Int), ((1 + 2 * z.c : Nat) : Int)], by simp; omega⟩, And.intro (And.intro rfl (And.intro rfl (And.intro rfl (And.intro rfl (And.intro rfl (And.intro (svu (u8_nat (1 + 2 * z.c) 2 (by omega))) trivial)))))) (And.intro rfl trivial), by show 12 - (z.c + 1) < 12 - z.c; omega⟩
      · have hgec : z.c = 12 := by have : ¬ ((1 + 2 * z.c : Nat) : Int) ≤ 23 := by simpa using hgec
                                   omega
        refine Or.inl ⟨_, fun ρ S w' hm => lawWeak_c [(s.a : Int), (q.b : Int), (s.a : Int)] s.a _ w' (hm.raw 1 rfl rfl [(s.a : Int), (q.b : Int), (s.a : Int)] (List.flatMap cE [(s.a : Int), (q.b : Int), (s.a : Int)]) rfl rfl rfl (fun y _ => rfl)), ?_⟩
        refine Or.inr (Or.inl ⟨And.intro rfl trivial, ?_⟩)
        refine Or.inl ⟨_, fun _ ρ S w' hm => lawWeakEnds_c [(s.a : Int), (q.b : Int), 4, (q.b : Int)] 2 _ w' (hm.raw 2 rfl rfl [(s.a : Int), (q.b : Int), 4, (q.b : Int)] (List.flatMap cE [(s.a : Int), (q.b : Int), 4, (q.b : Int)]) rfl rfl rfl (fun y _ => rfl)), ?_⟩
        refine And.intro (fun h => by cases h) (fun _ => ?_)
        exact ⟨[0], ⟨q.b + 1, by omega, by omega, z.l, by omega⟩, And.intro (And.intro rfl (And.intro rfl (And.intro rfl (And.intro rfl (And.intro (svu (u8_nat q.b 1 (by omega))) trivial))))) (And.intro rfl trivial), by show 24 - (q.b + 1) < 24 - q.b; omega⟩
    · have hgeb : q.b = 24 := by have : ¬ (q.b : Int) ≤ 23 := by simpa using hgeb
                                 omega
      exact ⟨[0], ⟨s.a + 1, by omega, by omega, q.l, by omega⟩, And.intro (And.intro rfl (And.intro rfl (And.intro rfl (And.intro (svu (u8_nat s.a 1 (by omega))) trivial)))) (And.intro rfl trivial), by show 24 - (s.a + 1) < 24 - s.a; omega⟩
  · have hge : s.a = 24 := by have : ¬ (s.a : Int) ≤ 23 := by simpa using hge
                              omega
    have hlen : s.l.length = 19044 := by rw [hla, hge]
    refine Or.inr (Or.inl ⟨And.intro rfl trivial, ?_⟩)
    refine ⟨⟨by decide, by decide, by show (2999 : Int) ≤ (s.l.length : Nat); omega⟩, Or.inr ?_⟩
    refine Or.inl ⟨_, fun _ ρ S w' hm => lawWeak_c (midL s.l (0 : Int).toNat (2999 : Int).toNat) 2 _ w' (hm.rd 1 rfl rfl), ?_⟩
    refine Or.inr (Or.inl ⟨And.intro rfl trivial, ?_⟩)
    refine And.intro ⟨by decide, by decide, by show (6000 : Int) ≤ (s.l.length : Nat); omega⟩ ?_
    refine Or.inl ⟨_, fun _ ρ S w' hm => lawWeak_c (midL s.l (3000 : Int).toNat (6000 : Int).toNat) 1 _ w' (hm.rd 2 rfl rfl), ?_⟩
    refine Or.inr (Or.inl ⟨And.intro rfl trivial, ?_⟩)
    refine Or.inl ⟨_, fun _ ρ S w' hm => lawWeak_c [0, 99, 255, 9] 77 _ w' (hm.raw 3 rfl rfl [0, 99, 255, 9] (List.flatMap cE [0, 99, 255, 9]) rfl rfl rfl (fun y _ => rfl)), ?_⟩
    refine Or.inl ⟨_, fun _ ρ S w' hm => arabic_c w', ?_⟩
    exact fun ρ S w' hi => ⟨rfl, hi.below⟩
end Go.Proofs.Ytcpaaekghajalaa
