/- The law ResolveKnown: true. -/
import Derived.Test.YtcpaaekghajalaaW12
namespace Go.Proofs.Ytcpaaekghajalaa
open Go Go.Eng Go.RowKit

theorem neu_l (xs : List Int) (lv sos eos : Int) (ys : List Int) (h : neuX xs lv sos eos = ys) (v : Value) (w : World) (hl : xs.length ≤ 1000000) (hlv : 0 ≤ lv ∧ lv ≤ 255) (hv : Rd w v 1 cE xs) :
    Calls Try.prog 18 #[v, .int .u8 lv, .int .u8 sos, .int .u8 eos] w fun e w' => ∃ u, e = .returned u ∧ Below w.heap.size w w' ∧ Fresh w w' u 23 1 cE ys := by
  subst h; exact neu_c xs lv sos eos v w hl hlv hv
theorem lev_l (xs : List Int) (lv : Int) (ys : List Int) (h : levX xs lv = ys) (v : Value) (w : World) (hl : xs.length ≤ 1000000) (hlv : 0 ≤ lv ∧ lv ≤ 255) (hv : Rd w v 1 cE xs) :
    Calls Try.prog 20 #[v, .int .u8 lv] w fun e w' => ∃ u, e = .returned u ∧ Below w.heap.size w w' ∧ Fresh w w' u 5 1 cE ys := by
  subst h; exact lev_c xs lv v w hl hlv hv
theorem is_t (xs : List Int) (v u : Value) (w : World) (hl : xs.length ≤ 1000000) (hv : Rd w v 1 cE xs) (hu : Rd w u 1 cE xs) :
    Calls Try.prog 17 #[v, u] w fun e w' => e = .returned (.bool true) ∧ Below w.heap.size w w' := by
  have := is_c xs xs v u w (by omega) (by omega) hv hu
  rwa [decide_eq_true rfl] at this
theorem rd_nil (w : World) : Rd w (.slice none 0 0) 1 cE ([] : List Int) :=
  .sl (xs := ([] : List Int)) none 0 0 0 (fun _ _ => undef) (Nat.le_refl _) (fun h => absurd rfl h) (fun i j d hi => by simp at hi) (fun i j d hi => by simp at hi)
theorem strT {a b : ByteArray} (h : a = b) : (a.toList == b.toList) = true := by subst h; simp
theorem u8_succ (n : Nat) (h : n ≤ 24) : IntKind.u8.wrap ((n : Int) + 1) = ((n + 1 : Nat) : Int) := by rw [u8_id _ (by omega) (by omega)]; rfl
theorem svb {a b : Bool} (h : a = b) : SV.v (.bool a) = SV.v (.bool b) := by rw [h]

abbrev s1 : ByteArray := strOfNums [2]
abbrev s2 : ByteArray := strOfNums [1, 0, 1, 0, 1]

set_option maxHeartbeats 4000000 in
theorem lawKnown_c (w : World) : Calls Try.prog 8 #[] w fun e w' => e = .returned (.bool true) ∧ Below w.heap.size w w' := by
  refine calls_exec (cf := cf) cfok (fn := Try.f8) Try.func8 rfl [] [] (ρ := fun _ => undef) (· < w.heap.size) rfl rfl rfl (by simp [svOkL]) (memNil fun _ h => h) ?_
  have q1 : ((s1.toList == (⟨#[2]⟩ : ByteArray).toList)) = true := strT rfl
  have q2 : ((s2.toList == (⟨#[1, 0, 1, 0, 1]⟩ : ByteArray).toList)) = true := strT rfl
  refine Or.inr (lcall_fresh [2, 10, 2, 10, 2] (fun ρ S w' hm => neu_l [2, 10, 14, 10, 2] 0 1 1 _ (by decide +kernel) _ w' (by decide) (by decide) (hm.raw 0 rfl rfl [2, 10, 14, 10, 2] (List.flatMap cE [2, 10, 14, 10, 2]) rfl rfl rfl (fun y _ => rfl))) ?_)
  refine Or.inr (lcall_fresh [1] (fun ρ S w' hm => neu_l [14] 1 1 1 _ (by decide +kernel) _ w' (by decide) (by decide) (hm.raw 2 rfl rfl [14] (List.flatMap cE [14]) rfl rfl rfl (fun y _ => rfl))) ?_)
  refine Or.inl ⟨_, fun ρ S w' hm => is_t [1] _ _ w' (by decide) (hm.own 3 rfl rfl) (hm.raw 4 rfl rfl [1] (List.flatMap cE [1]) rfl rfl rfl (fun y _ => rfl)), ?_⟩
  refine Or.inr (Or.inl ⟨And.intro rfl trivial, ?_⟩)
  refine Or.inr (Or.inl ⟨And.intro rfl trivial, ?_⟩)
  refine Or.inr (lcall_fresh [2] (fun ρ S w' hm => lev_l [1] 1 _ (by decide +kernel) _ w' (by decide) (by decide) (hm.raw 5 rfl rfl [1] (List.flatMap cE [1]) rfl rfl rfl (fun y _ => rfl))) ?_)
  refine ⟨.string s1, fun _ => pure_bytes ttok _ rfl rfl rfl rfl rfl (rowsOwn _ _ _), ?_⟩
  have g15 : (true && (s1.toList == (⟨#[2]⟩ : ByteArray).toList)) = true := by rw [q1]; rfl
  refine Or.inr (Or.inl ⟨And.intro g15 trivial, ?_⟩)
  refine Or.inr (Or.inl ⟨And.intro g15 trivial, ?_⟩)
  refine Or.inr (lcall_fresh [2, 2, 2] (fun ρ S w' hm => neu_l [21, 23, 11] 0 2 2 _ (by decide +kernel) _ w' (by decide) (by decide) (hm.raw 7 rfl rfl [21, 23, 11] (List.flatMap cE [21, 23, 11]) rfl rfl rfl (fun y _ => rfl))) ?_)
  refine Or.inr (Or.inl ⟨And.intro g15 trivial, ?_⟩)
  refine Or.inl ⟨_, fun _ ρ S w' hm => is_t [2, 2, 2] _ _ w' (by decide) (hm.own 8 rfl rfl) (hm.raw 9 rfl rfl [2, 2, 2] (List.flatMap cE [2, 2, 2]) rfl rfl rfl (fun y _ => rfl)), ?_⟩
  have g26 : ((true && (s1.toList == (⟨#[2]⟩ : ByteArray).toList)) && true) = true := by rw [g15]; rfl
  refine Or.inr (Or.inl ⟨And.intro g26 trivial, ?_⟩)
  refine Or.inl ⟨_, fun _ ρ S w' hm => is_t [2, 10, 2, 10, 2] _ _ w' (by decide) (hm.own 1 rfl rfl) (hm.raw 10 rfl rfl [2, 10, 2, 10, 2] (List.flatMap cE [2, 10, 2, 10, 2]) rfl rfl rfl (fun y _ => rfl)), ?_⟩
  have g36 : (((true && (s1.toList == (⟨#[2]⟩ : ByteArray).toList)) && true) && true) = true := by rw [g26]; rfl
  refine Or.inr (Or.inl ⟨And.intro g36 trivial, ?_⟩)
  refine Or.inr (lcall_fresh [1, 0, 1, 0, 1] (fun ρ S w' hm => lev_l [2, 10, 2, 10, 2] 0 _ (by decide +kernel) _ w' (by decide) (by decide) (hm.own 1 rfl rfl)) ?_)
  refine ⟨.string s2, fun _ => pure_bytes ttok _ rfl rfl rfl rfl rfl (rowsOwn _ _ _), ?_⟩
  have g42 : ((((true && (s1.toList == (⟨#[2]⟩ : ByteArray).toList)) && true) && true) && (s2.toList == (⟨#[1, 0, 1, 0, 1]⟩ : ByteArray).toList)) = true := by rw [g36, q2]; rfl
  refine Or.inr (Or.inl ⟨And.intro g42 trivial, ?_⟩)
  refine Or.inr (Or.inl ⟨And.intro g42 trivial, ?_⟩)
  refine Or.inr (lcall_fresh [1, 1] (fun ρ S w' hm => neu_l [14, 14] 0 2 1 _ (by decide +kernel) _ w' (by decide) (by decide) (hm.raw 12 rfl rfl [14, 14] (List.flatMap cE [14, 14]) rfl rfl rfl (fun y _ => rfl))) ?_)
  refine Or.inr (Or.inl ⟨And.intro g42 trivial, ?_⟩)
  refine Or.inl ⟨_, fun _ ρ S w' hm => is_t [1, 1] _ _ w' (by decide) (hm.own 13 rfl rfl) (hm.raw 14 rfl rfl [1, 1] (List.flatMap cE [1, 1]) rfl rfl rfl (fun y _ => rfl)), ?_⟩
  have g54 : (((((true && (s1.toList == (⟨#[2]⟩ : ByteArray).toList)) && true) && true) && (s2.toList == (⟨#[1, 0, 1, 0, 1]⟩ : ByteArray).toList)) && true) = true := by rw [g42]; rfl
  refine Or.inr (Or.inl ⟨And.intro g54 trivial, ?_⟩)
  refine Or.inr (Or.inl ⟨And.intro g54 trivial, ?_⟩)
  refine Or.inr (lcall_fresh [4, 2, 7] (fun ρ S w' hm => neu_l [4, 14, 7] 0 1 1 _ (by decide +kernel) _ w' (by decide) (by decide) (hm.raw 15 rfl rfl [4, 14, 7] (List.flatMap cE [4, 14, 7]) rfl rfl rfl (fun y _ => rfl))) ?_)
  refine Or.inr (Or.inl ⟨And.intro g54 trivial, ?_⟩)
  refine Or.inl ⟨_, fun _ ρ S w' hm => is_t [4, 2, 7] _ _ w' (by decide) (hm.own 16 rfl rfl) (hm.raw 17 rfl rfl [4, 2, 7] (List.flatMap cE [4, 2, 7]) rfl rfl rfl (fun y _ => rfl)), ?_⟩
  have g64 : ((((((true && (s1.toList == (⟨#[2]⟩ : ByteArray).toList)) && true) && true) && (s2.toList == (⟨#[1, 0, 1, 0, 1]⟩ : ByteArray).toList)) && true) && true) = true := by rw [g54]; rfl
  refine Or.inr (Or.inl ⟨And.intro g64 trivial, ?_⟩)
  refine Or.inr (lcall_fresh ([] : List Int) (fun ρ S w' hm => neu_l [] 0 1 1 _ (by decide +kernel) _ w' (by decide) (by decide) (rd_nil w')) ?_)
  refine ⟨{ a : Nat // a ≤ 25 }, fun a => ⟨146, [⟨1, [], .v (.int .u8 1)⟩, ⟨2, [], .v (.int .u8 2)⟩, ⟨3, [], .v (.int .u8 14)⟩, ⟨4, [], .v (.int .u8 10)⟩, ⟨6, [], .v (.bool true)⟩, ⟨7, [], .v (.int .u8 a.1)⟩], [], [], nats⟩,
    fun a => 25 - a.1, ⟨[], ⟨0, by omega⟩, ?_⟩, fun a => ?_⟩
  · exact And.intro (And.intro rfl (And.intro rfl (And.intro rfl (And.intro rfl (And.intro (svb (by
      show (((((((true && (s1.toList == (⟨#[2]⟩ : ByteArray).toList)) && true) && true) && (s2.toList == (⟨#[1, 0, 1, 0, 1]⟩ : ByteArray).toList)) && true) && true) && decide ((0 : Int) = 0)) = true
      rw [g64]; rfl)) (And.intro rfl trivial)))))) trivial
  obtain ⟨a, ha⟩ := a
  refine And.intro (fun hlt => ?_) (fun hge => ?_)
  · have hlt : a ≤ 24 := by have : (a : Int) ≤ 24 := by simpa using hlt
                            omega
    refine ⟨{ c : Nat // c ≤ 25 }, fun c => ⟨146, [⟨1, [], .v (.int .u8 1)⟩, ⟨2, [], .v (.int .u8 2)⟩, ⟨3, [], .v (.int .u8 14)⟩, ⟨4, [], .v (.int .u8 10)⟩, ⟨6, [], .v (.bool true)⟩, ⟨7, [], .v (.int .u8 a)⟩, ⟨8, [], .v (.int .u8 c.1)⟩], [], [], nats⟩,
      fun c => 25 - c.1, ⟨[], ⟨0, by omega⟩, ?_⟩, fun c => ?_⟩
    · exact And.intro (And.intro rfl (And.intro rfl (And.intro rfl (And.intro rfl (And.intro rfl (And.intro rfl (And.intro rfl trivial))))))) trivial
    obtain ⟨c, hc⟩ := c
    refine And.intro (fun hlt2 => ?_) (fun hge2 => ?_)
    · have hlt2 : c ≤ 24 := by have : (c : Int) ≤ 24 := by simpa using hlt2
                               omega
      refine Or.inl ⟨_, fun ρ S w' hm => lawNeutral_c [(a : Int), 14, (c : Int)] a a c _ w' ⟨by omega, by omega⟩ (hm.raw 0 rfl rfl [(a : Int), 14, (c : Int)] (List.flatMap cE [(a : Int), 14, (c : Int)]) rfl rfl rfl (fun y _ => rfl)), ?_⟩
      refine Or.inr (Or.inl ⟨And.intro rfl trivial, ?_⟩)
      refine Or.inl ⟨_, fun _ ρ S w' hm => lawNeutral_c [14, (a : Int), (c : Int), 13] c 2 1 _ w' ⟨by omega, by omega⟩ (hm.raw 1 rfl rfl [14, (a : Int), (c : Int), 13] (List.flatMap cE [14, (a : Int), (c : Int), 13]) rfl rfl rfl (fun y _ => rfl)), ?_⟩
      refine Or.inr (Or.inl ⟨And.intro rfl trivial, ?_⟩)
      refine Or.inl ⟨_, fun _ ρ S w' hm => lawLevels_c [(a : Int), (c : Int)] 0 _ w' ⟨by omega, by omega⟩ (hm.raw 2 rfl rfl [(a : Int), (c : Int)] (List.flatMap cE [(a : Int), (c : Int)]) rfl rfl rfl (fun y _ => rfl)), ?_⟩
      refine Or.inr (Or.inl ⟨And.intro rfl trivial, ?_⟩)
      refine Or.inl ⟨_, fun _ ρ S w' hm => lawLevels_c [(a : Int), (c : Int)] 255 _ w' ⟨by omega, by omega⟩ (hm.raw 3 rfl rfl [(a : Int), (c : Int)] (List.flatMap cE [(a : Int), (c : Int)]) rfl rfl rfl (fun y _ => rfl)), ?_⟩
      refine Or.inr (Or.inl ⟨And.intro rfl trivial, ?_⟩)
      refine Or.inl ⟨_, fun _ ρ S w' hm => lawEnds_c [(a : Int), 14, 10, (c : Int)] 1 2 2 _ w' ⟨by omega, by omega⟩ (hm.raw 4 rfl rfl [(a : Int), 14, 10, (c : Int)] (List.flatMap cE [(a : Int), 14, 10, (c : Int)]) rfl rfl rfl (fun y _ => rfl)), ?_⟩
      refine And.intro (fun h => by cases h) (fun _ => ?_)
      exact ⟨[], ⟨c + 1, by omega⟩, And.intro (And.intro rfl (And.intro rfl (And.intro rfl (And.intro rfl (And.intro rfl (And.intro rfl (And.intro (svu (u8_succ c hlt2)) trivial))))))) trivial, by show _ - (c + 1) < _ - c; omega⟩
    · exact ⟨[], ⟨a + 1, by omega⟩, And.intro (And.intro rfl (And.intro rfl (And.intro rfl (And.intro rfl (And.intro rfl (And.intro (svu (u8_succ a hlt)) trivial)))))) trivial, by show _ - (a + 1) < _ - a; omega⟩
  · exact Or.inl ⟨_, fun _ ρ S w' hm => works_c w', fun ρ S w' hi => ⟨rfl, hi.below⟩⟩
end Go.Proofs.Ytcpaaekghajalaa
