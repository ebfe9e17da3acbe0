/- calamuslaw11's cleared, and what a resolved row's classes and levels are, in plain Lean. -/
import Derived.Test.YtcpaaekghajalaaW8
namespace Go.Proofs.Ytcpaaekghajalaa
open Go Go.Eng Go.RowKit

def clF (c : Int) : Int := if (((((!decide (c = 1)) && (!decide (c = 2))) && (!decide (c = 4))) && (!decide (c = 7))) && (!decide (c = 10))) && (!neuF c) then 14 else c
def clX (xs : List Int) : List Int := xs.map clF
theorem clX_len (xs : List Int) : (clX xs).length = xs.length := by simp [clX]
theorem clX_nth (xs : List Int) (i : Nat) (h : i < xs.length) : nth (clX xs) i = clF (nth xs i) := by
  rw [nth_eq _ _ (by rw [clX_len]; exact h), nth_eq _ _ h]; simp [clX]
theorem clF_or (c : Int) : clF c = 1 ∨ clF c = 2 ∨ clF c = 4 ∨ clF c = 7 ∨ clF c = 10 ∨ neuF (clF c) = true := by
  unfold clF
  split
  · exact .inr (.inr (.inr (.inr (.inr (by decide)))))
  · rename_i h
    by_cases h1 : c = 1
    · exact .inl h1
    by_cases h2 : c = 2
    · exact .inr (.inl h2)
    by_cases h3 : c = 4
    · exact .inr (.inr (.inl h3))
    by_cases h4 : c = 7
    · exact .inr (.inr (.inr (.inl h4)))
    by_cases h5 : c = 10
    · exact .inr (.inr (.inr (.inr (.inl h5))))
    simp [h1, h2, h3, h4, h5] at h
    exact .inr (.inr (.inr (.inr (.inr h))))

theorem cleared_c (xs : List Int) (v : Value) (w : World) (hl : xs.length ≤ 1000000) (hv : Rd w v 1 cE xs) :
    Calls Try.prog 22 #[v] w fun e w' => ∃ u, e = .returned u ∧ Below w.heap.size w w' ∧ Fresh w w' u 23 1 cE (clX xs) := by
  refine calls_exec (cf := cf) cfok (fn := Try.f22) Try.func22 rfl [.sl 0] [.rd Int inferInstance 1 cE xs] (ρ := fun _ => v) (· < w.heap.size) rfl rfl rfl (by simp [svOkL, svOk]) (memRd (fun _ h => h) ⟨hv, trivial⟩) ?_
  have hlen := clX_len xs
  refine ⟨{ i : Nat // i ≤ xs.length }, fun i => ⟨44, [⟨0, [], .sl 0⟩, ⟨3, [], .sl 1⟩, ⟨4, [], .v (.int .i64 i.1)⟩], [.rd Int inferInstance 1 cE xs, .own 23 Int inferInstance 1 cE ((clX xs).take i.1)], [], dropL nats 2⟩,
    fun i => xs.length - i.1, ⟨[0, 1000], ⟨0, by omega⟩, ?_⟩, fun i => ?_⟩
  · exact And.intro (And.intro rfl (And.intro rfl (And.intro rfl trivial))) (And.intro rfl (And.intro rfl trivial))
  obtain ⟨i, hi⟩ := i
  refine And.intro (fun hlt => ?_) (fun hge => ?_)
  · have hlt : i < xs.length := by simpa using hlt
    have htk := take_succ_nth (clX xs) i (by omega)
    rw [clX_nth _ _ hlt] at htk
    have fin : ∀ z : Int, z = clF (nth xs i) → (clX xs).take i ++ [z] = (clX xs).take (i + 1) := fun z hz => by rw [htk, hz]
    have hbd : (((clX xs).take i).length + 1) * 1 ≤ 140737488355328 := by simp; omega
    refine And.intro ⟨by (first | omega | (dsimp only at *; omega)), by (first | omega | (dsimp only at *; omega))⟩ ?_
    refine Or.inl ⟨_, fun _ ρ S w' hm => isNeutral_c _ _, ?_⟩
    refine And.intro (fun hc => ?_) (fun hc => ?_)
    · have hc : ((((((!decide (nth xs i = 1)) && (!decide (nth xs i = 2))) && (!decide (nth xs i = 4))) && (!decide (nth xs i = 7))) && (!decide (nth xs i = 10))) && (!neuF (nth xs i))) = true := hc
      refine ⟨_, rowsRaw1 _, hbd, ?_⟩
      exact ⟨[0, 3], ⟨i + 1, hlt⟩, And.intro (And.intro rfl (And.intro rfl (And.intro (sv_i64 (i64_succ i (by omega))) trivial))) (And.intro rfl (And.intro (ownEq (fin _ (by unfold clF; rw [if_pos hc]))) trivial)), by show _ - (i + 1) < _ - i; omega⟩
    · have hc : ((((((!decide (nth xs i = 1)) && (!decide (nth xs i = 2))) && (!decide (nth xs i = 4))) && (!decide (nth xs i = 7))) && (!decide (nth xs i = 10))) && (!neuF (nth xs i))) = false := hc
      refine ⟨_, rowsRaw1 _, hbd, ?_⟩
      exact ⟨[0, 3], ⟨i + 1, hlt⟩, And.intro (And.intro rfl (And.intro rfl (And.intro (sv_i64 (i64_succ i (by omega))) trivial))) (And.intro rfl (And.intro (ownEq (fin _ (by unfold clF; rw [if_neg (by rw [hc]; simp)]; rfl))) trivial)), by show _ - (i + 1) < _ - i; omega⟩
  · have hge : i = xs.length := by have : ¬ i < xs.length := by simpa using hge
                                   (first | omega | (dsimp only at *; omega))
    have : (clX xs).take i = clX xs := by rw [hge, ← hlen, List.take_length]
    refine fun ρ S w' hi => ⟨_, rfl, hi.below, ?_⟩
    have hf : Fresh w w' (ρ 1) 23 1 cE ((clX xs).take i) := hi.fresh 1 cE_flat rfl rfl
    rw [this] at hf
    exact hf

theorem sideF_012 (c : Int) : sideF c = 0 ∨ sideF c = 1 ∨ sideF c = 2 := by
  unfold sideF; split
  · exact .inr (.inl rfl)
  · split
    · exact .inr (.inr rfl)
    · exact .inl rfl
theorem edgeF_12 (c : Int) : edgeF c = 1 ∨ edgeF c = 2 := by unfold edgeF; split; exact .inr rfl; exact .inl rfl
theorem dA_012 : ∀ (d : Int) (xs : List Int), (d = 0 ∨ d = 1 ∨ d = 2) → (dA d xs = 0 ∨ dA d xs = 1 ∨ dA d xs = 2)
  | _, [], h => h
  | d, c :: r, h => by
    simp only [dA]; split
    · exact dA_012 _ r (sideF_012 c)
    · exact dA_012 _ r h
theorem sideOf_12 (lv : Int) : sideOf lv = 1 ∨ sideOf lv = 2 := by unfold sideOf; split; exact .inr rfl; exact .inl rfl

/-- at a place: what it was, what it is -/
theorem neu_at (c : List Int) (lv sos eos : Int) (i : Nat) (h : i < c.length) :
    (neuF (nth c i) = false ∧ nth (neuX c lv sos eos) i = nth c i) ∨
    (neuF (nth c i) = true ∧ (nth (neuX c lv sos eos) i = 1 ∨ nth (neuX c lv sos eos) i = 2) ∧
      (nth (neuX c lv sos eos) i ≠ sideOf lv → dA (edgeF sos) (c.take i) = bh (edgeF eos) (c.drop (i + 1)) ∧ dA (edgeF sos) (c.take i) ≠ 0 ) ∧
      (dA (edgeF sos) (c.take i) = bh (edgeF eos) (c.drop (i + 1)) ∧ dA (edgeF sos) (c.take i) ≠ 0 → nth (neuX c lv sos eos) i = dA (edgeF sos) (c.take i))) := by
  rw [neuX_nth _ _ _ _ _ h]
  cases hn : neuF (nth c i) with
  | false => exact .inl ⟨rfl, rfl⟩
  | true =>
    refine .inr ⟨rfl, ?_⟩
    simp only [if_true]
    by_cases hd : dA (edgeF sos) (c.take i) = bh (edgeF eos) (c.drop (i + 1)) ∧ dA (edgeF sos) (c.take i) ≠ 0
    · rw [if_pos hd]
      refine ⟨?_, fun _ => hd, fun _ => rfl⟩
      rcases dA_012 (edgeF sos) (c.take i) (.inr (edgeF_12 sos)) with h | h | h
      · exact absurd h hd.2
      · exact .inl h
      · exact .inr h
    · rw [if_neg hd]
      exact ⟨sideOf_12 lv, fun h => absurd rfl h, fun h => absurd h hd⟩

/-- what the loop of ResolveEnds knows of the last class ahead -/
def Bef (c : List Int) (sos eos : Int) (i : Nat) (b : Int) : Prop :=
  b = 0 ∨ ((b = 1 ∨ b = 2) ∧ (dA (edgeF sos) (c.take i) = bh (edgeF eos) (c.drop i) ∧ dA (edgeF sos) (c.take i) ≠ 0 → (b = 1 ↔ dA (edgeF sos) (c.take i) = 1)))

theorem Bef.bn {c : List Int} {sos eos : Int} {i : Nat} {b : Int} (h : Bef c sos eos i b) (hi : i < c.length) (h10 : nth c i = 10) : Bef c sos eos (i + 1) b := by
  have h1 := dA_step (edgeF sos) c i hi
  have h2 := bh_step (edgeF eos) c i hi
  rw [h10, if_neg (by decide)] at h1 h2
  unfold Bef at h ⊢
  rw [h1, ← h2]
  exact h
theorem Bef.next {c : List Int} {lv sos eos : Int} {i : Nat} (hi : i < c.length) (hcl : nth c i = 1 ∨ nth c i = 2 ∨ nth c i = 4 ∨ nth c i = 7 ∨ neuF (nth c i) = true) :
    Bef c sos eos (i + 1) (if nth (neuX c lv sos eos) i = 1 then 1 else 2) := by
  have h1 := dA_step (edgeF sos) c i hi
  have h2 := bh_step (edgeF eos) c i hi
  refine .inr ⟨by split; exact .inl rfl; exact .inr rfl, fun hd => ?_⟩
  rcases neu_at c lv sos eos i hi with ⟨hn, hr⟩ | ⟨hn, _, _, hr⟩
  · have ht : nth c i = 1 ∨ nth c i = 2 ∨ nth c i = 4 ∨ nth c i = 7 := by
      rcases hcl with h | h | h | h | h
      · exact .inl h
      · exact .inr (.inl h)
      · exact .inr (.inr (.inl h))
      · exact .inr (.inr (.inr h))
      · rw [hn] at h; cases h
    have htl : tells (nth c i) = true := by rcases ht with h | h | h | h <;> rw [h] <;> decide
    rw [if_pos htl] at h1
    rw [h1, hr]
    rcases ht with h | h | h | h <;> rw [h] <;> decide
  · rw [if_neg (by simp [tells, hn])] at h1
    rw [h1] at hd ⊢
    rw [hr hd]
    split
    · rename_i e; simp [e]
    · rename_i e; simp [e]

/-- a level, of a class that is left -/
theorem lev_at (lv r : Int) (h0 : 0 ≤ lv) (h1 : lv ≤ 250) (hr : r = 1 ∨ r = 2 ∨ r = 4 ∨ r = 7) :
    lv ≤ levF lv r ∧ levF lv r ≤ lv + 2 ∧ ((levF lv r) % 2 = 1 ↔ r = 2) ∧ 0 ≤ levF lv r := by
  have hp : 0 ≤ pkF r lv ∧ pkF r lv ≤ 2 := by
    unfold pkF moreF
    rcases hr with h | h | h | h <;> subst h <;> simp <;> split <;> simp
  have e : levF lv r = lv + pkF r lv := by unfold levF; exact u8_id _ (by omega) (by omega)
  rw [e]
  refine ⟨by omega, by omega, ?_, by omega⟩
  have h01 : lv % 2 = 0 ∨ lv % 2 = 1 := by omega
  unfold pkF moreF
  rcases hr with h | h | h | h <;> subst h <;> rcases h01 with g | g <;> simp [g] <;> omega
end Go.Proofs.Ytcpaaekghajalaa
