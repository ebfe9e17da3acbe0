/- parbreak.Break: its memo. -/
import Derived.Test.YtiaaiihdamkeaaaK1
import Derived.ChangeKeysEq
import Derived.WideKeyRuns
import Derived.MapKept
import Derived.ProofKit
set_option maxRecDepth 100000
set_option linter.unusedVariables false
namespace Go.Proofs.Ytiaaiihdamkeaaa
open Go Go.Eng Go.RowKit Go.Ar

/-- the first breaks from j on, s of them, the best being c -/
def scanF (p : Par) (f : Nat → Int) (from' k : Nat) : Nat → Nat → Nat × Int → Nat × Int
  | _, 0, c => c
  | j, s + 1, c =>
    let sum := costF p from' j k + f j
    let c' := if c.2 < 0 ∨ sum < c.2 then (j, sum) else c
    if nth p.must j = true then c' else scanF p f from' k (j + 1) s c'
def bestF (p : Par) : Nat → Nat → Nat → Nat × Int
  | 0, _, _ => (0, 0)
  | m + 1, from', k => if from' = p.n then (0, 0) else scanF p (fun j => (bestF p m j (k + 1)).2) from' k (from' + 1) (p.n - from') (0, -1)
def best (p : Par) (from' k : Nat) : Nat × Int := bestF p (p.n + 1) from' k
theorem scanF_congr (p : Par) {f g : Nat → Int} (from' k : Nat) : ∀ (s j : Nat) (c : Nat × Int), (∀ i, j ≤ i → i < j + s → f i = g i) → scanF p f from' k j s c = scanF p g from' k j s c
  | 0, j, c, _ => rfl
  | s + 1, j, c, h => by
    unfold scanF
    rw [h j (by omega) (by omega)]
    simp only
    rw [scanF_congr p from' k s (j + 1) _ (fun i h1 h2 => h i (by omega) (by omega))]
theorem bestF_fuel (p : Par) : ∀ (m m' from' k : Nat), from' ≤ p.n → p.n - from' < m → p.n - from' < m' → bestF p m from' k = bestF p m' from' k
  | 0, _, _, _, _, h, _ => absurd h (Nat.not_lt_zero _)
  | m + 1, 0, _, _, _, _, h => absurd h (Nat.not_lt_zero _)
  | m + 1, m' + 1, from', k, hf, h1, h2 => by
    unfold bestF
    by_cases e : from' = p.n
    · rw [if_pos e, if_pos e]
    · rw [if_neg e, if_neg e]
      refine scanF_congr p from' k _ _ _ fun i h3 h4 => ?_
      show (bestF p m i (k + 1)).2 = (bestF p m' i (k + 1)).2
      rw [bestF_fuel p m m' i (k + 1) (by omega) (by omega) (by omega)]
theorem best_end (p : Par) (k : Nat) : best p p.n k = (0, 0) := by
  unfold best bestF; rw [if_pos rfl]
theorem best_eq (p : Par) {from' : Nat} (h : from' < p.n) (k : Nat) : best p from' k = scanF p (fun j => (best p j (k + 1)).2) from' k (from' + 1) (p.n - from') (0, -1) := by
  unfold best
  rw [bestF, if_neg (by omega)]
  refine scanF_congr p from' k _ _ _ fun i h3 h4 => ?_
  show (bestF p p.n i (k + 1)).2 = (bestF p (p.n + 1) i (k + 1)).2
  rw [bestF_fuel p p.n (p.n + 1) i (k + 1) (by omega) (by omega) (by omega)]
/-- which line it is counts no more than which width -/
theorem costF_wk (p : Par) (i j : Nat) {k k' : Nat} (h : wk p k = wk p k') : costF p i j k = costF p i j k' := by unfold costF; rw [h]
theorem wk_succ (p : Par) {k k' : Nat} (h : wk p k = wk p k') : wk p (k + 1) = wk p (k' + 1) := by
  have := p.hw
  unfold wk at *
  omega
theorem scanF_wk (p : Par) {f : Nat → Int} (from' : Nat) {k k' : Nat} (h : wk p k = wk p k') : ∀ (s j : Nat) (c : Nat × Int), scanF p f from' k j s c = scanF p f from' k' j s c
  | 0, j, c => rfl
  | s + 1, j, c => by
    unfold scanF
    rw [costF_wk p from' j h]
    simp only
    rw [scanF_wk p from' h s (j + 1)]
theorem bestF_wk (p : Par) : ∀ (m from' k k' : Nat), wk p k = wk p k' → bestF p m from' k = bestF p m from' k'
  | 0, _, _, _, _ => rfl
  | m + 1, from', k, k', h => by
    unfold bestF
    by_cases e : from' = p.n
    · rw [if_pos e, if_pos e]
    · rw [if_neg e, if_neg e, scanF_wk p from' h]
      refine scanF_congr p from' k' _ _ _ fun i _ _ => ?_
      show (bestF p m i (k + 1)).2 = (bestF p m i (k' + 1)).2
      rw [bestF_wk p m i (k + 1) (k' + 1) (wk_succ p h)]
theorem wk_wk (p : Par) (k : Nat) : wk p (wk p k) = wk p k := by unfold wk; omega
theorem best_wk (p : Par) (from' k : Nat) : best p from' (wk p k) = best p from' k := bestF_wk p _ _ _ _ (wk_wk p k)

/-! the map -/
abbrev keyV (f k : Int) : Value := .agg #[.int .i64 f, .int .i64 k]
abbrev valV (c : Nat × Int) : Value := .agg #[.int .i64 (c.1 : Nat), .int .i64 c.2]
def memoOk (p : Par) (o : Obj) : Prop := ∃ es clock, o = .map es clock ∧ ∀ e ∈ es.toList, ∃ f k : Nat, e.key = keyV f k ∧ e.val = valV (best p f k)
theorem memo0 (p : Par) : memoOk p (.map #[] 0) := ⟨#[], 0, rfl, fun e h => by simp at h⟩
theorem eqInt3 (x y : Int) (w : World) : (Op.equalIn 9999 3 (.int .i64 x) (.int .i64 y)).run Try.prog w = .ok (x == y) w := by
  rw [show (9999 : Nat) = 9998 + 1 from rfl, run_equalIn_int w 9998 3 .i64 .i64 x y Try.underlying3]
theorem eqKey (a b c d : Int) (w : World) : (Op.equalIn 10000 50 (keyV a b) (keyV c d)).run Try.prog w = .ok (decide (a = c ∧ b = d)) w := by
  obtain ⟨i, hi⟩ : ∃ i, Try.prog.info? 3 = some i := ⟨_, rfl⟩
  rw [show (10000 : Nat) = 9999 + 1 from rfl, run_equalIn_array (n := 2) (e := 3) w 9999 _ _ Try.underlying50 hi, show Try.prog.cellsOf 3 = 1 by kernel_rfl]
  show (Op.eqItems 9999 3 1 _ _ [0, 1]).run Try.prog w = _
  simp [Op.eqItems, part, isAgg, run_underlying Try.underlying3, eqInt3]
  by_cases h1 : a = c <;> by_cases h2 : b = d <;> simp [h1, h2]
theorem find_c (p : Par) (f k : Nat) (w : World) : ∀ (es : List MapEntry) (i : Nat), (∀ e ∈ es, ∃ f k : Nat, e.key = keyV f k ∧ e.val = valV (best p f k)) →
    (Instr.findAsking 50 (keyV f k) es i).run Try.prog w = .ok none w ∨ ∃ q e, (Instr.findAsking 50 (keyV f k) es i).run Try.prog w = .ok (some (i + q, valV (best p f k))) w ∧ es[q]? = some e ∧ e.key = keyV f k
  | [], i, _ => .inl (by simp [Instr.findAsking])
  | e :: es, i, h => by
    obtain ⟨f', k', h1, h2⟩ := h e (by simp)
    have he : (Op.equal 50 (keyV f k) e.key).run Try.prog w = .ok (decide ((f : Int) = f' ∧ (k : Int) = k')) w := by rw [h1]; exact eqKey f k f' k' w
    by_cases hh : (f : Int) = f' ∧ (k : Int) = k'
    · right
      refine ⟨0, e, ?_, rfl, by rw [h1, hh.1, hh.2]⟩
      have e1 : f = f' := by omega
      have e2 : k = k' := by omega
      subst e1 e2
      simp [Instr.findAsking, he, Result.andThen, h2]
    · rcases find_c p f k w es (i + 1) (fun x hx => h x (List.mem_cons_of_mem _ hx)) with h3 | ⟨q, x, h3, h4, h5⟩
      · left
        simp only [Instr.findAsking, Sem.run_bind, he, Result.andThen_ok, decide_eq_false hh]
        simpa using h3
      · right
        refine ⟨q + 1, x, ?_, by simpa using h4, h5⟩
        simp only [Instr.findAsking, Sem.run_bind, he, Result.andThen_ok, decide_eq_false hh]
        rw [show i + (q + 1) = i + 1 + q by omega]
        simpa using h3
theorem chk_c (b : Bool) (f k : Int) (w : World) : (Instr.checkKey b 10000 50 (keyV f k)).run Try.prog w = .ok () w := by
  obtain ⟨i, hi⟩ : ∃ i, Try.prog.info? 3 = some i := ⟨_, rfl⟩
  have q : ∀ (x : Int) (w : World), (Instr.checkKey b (9998 + 1) 3 (.int .i64 x)).run Try.prog w = .ok () w := fun x w => Go.MapKept.run_checkKey Try.underlying3 (show Go.MapKept.IsKey (.int .i64) (.int .i64 x) from rfl) b 9998
  have hs : ∀ w, (sizeOf 3).run Try.prog w = .ok 1 w := fun w => by rw [run_sizeOf w hi, show Try.prog.cellsOf 3 = 1 by kernel_rfl]
  rw [show (10000 : Nat) = 9998 + 1 + 1 from rfl]
  generalize (9998 : Nat) + 1 = m at q ⊢
  have hpart : ∀ (i : Nat) (v : Value) (w : World), (#[Value.int .i64 f, Value.int .i64 k])[i]? = some v → (part 3 #[.int .i64 f, .int .i64 k] (i * 1)).run Try.prog w = .ok v w := fun i v w h => by
    simp [part, isAgg, run_underlying Try.underlying3, h]
  rw [Instr.checkKey]
  simp only [Sem.run_bind, run_underlying Try.underlying50, Result.andThen_ok]
  simp only [Std.Legacy.Range.forIn_eq_forIn_range', Std.Legacy.Range.size, Nat.sub_zero, Nat.add_sub_cancel, Nat.div_one]
  simp only [show List.range' 0 2 = [0, 1] from rfl, List.forIn_cons, List.forIn_nil, Sem.run_bind, hs, Result.andThen_ok, hpart 0 (.int .i64 f) _ rfl, hpart 1 (.int .i64 k) _ rfl, q, Sem.run_pure]
end Go.Proofs.Ytiaaiihdamkeaaa
