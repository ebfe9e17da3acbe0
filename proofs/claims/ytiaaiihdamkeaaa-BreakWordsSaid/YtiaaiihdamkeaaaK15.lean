/- The table of lines that words make. -/
import Derived.Test.YtiaaiihdamkeaaaK14
set_option maxRecDepth 100000
set_option linter.unusedVariables false
namespace Go.Proofs.Ytiaaiihdamkeaaa
open Go Go.Eng Go.RowKit Go.Ar

/-- d words from the i-th on -/
def lnW (ws : List Int) (i : Nat) : Nat → Ln
  | 0 => ⟨0, 0, 0⟩
  | d + 1 => if d = 0 then ⟨(lnW ws i d).h + nth ws (i + d), (lnW ws i d).s, (lnW ws i d).k⟩ else ⟨(lnW ws i d).h + nth ws (i + d) + 10, (lnW ws i d).s + 5, (lnW ws i d).k + 3⟩
def Wd (ws : List Int) : Prop := ∀ i, i < ws.length → 0 ≤ nth ws i ∧ nth ws i ≤ 1000
theorem lnW_range {ws : List Int} (h : Wd ws) (i : Nat) : ∀ d, i + d ≤ ws.length → (0 ≤ (lnW ws i d).h ∧ (lnW ws i d).h ≤ (d : Int) * 1010) ∧ (0 ≤ (lnW ws i d).s ∧ (lnW ws i d).s ≤ (d : Int) * 5) ∧ (0 ≤ (lnW ws i d).k ∧ (lnW ws i d).k ≤ (d : Int) * 3)
  | 0, _ => by simp [lnW]
  | d + 1, hd => by
    have ih := lnW_range h i d (by omega)
    have := h (i + d) (by omega)
    unfold lnW
    split
    · rename_i e; subst e
      simp only
      omega
    · simp only
      omega
def tabV (ws : List Int) (W i j q : Nat) : Ln := if (q / W < i ∨ (q / W = i ∧ q % W < j)) ∧ q / W < q % W then lnW ws (q / W) (q % W - q / W) else ⟨0, 0, 0⟩
def tabR (ws : List Int) (W i j : Nat) : List Ln := (List.range (W * W)).map (tabV ws W i j)
theorem tabR_len (ws : List Int) (W i j : Nat) : (tabR ws W i j).length = W * W := by unfold tabR; rw [List.length_map, List.length_range]
theorem tabR_nth (ws : List Int) (W i j : Nat) {q : Nat} (h : q < W * W) : nth (tabR ws W i j) q = tabV ws W i j q := by
  unfold tabR nth
  rw [List.getD_eq_getElem?_getD, List.getElem?_map, List.getElem?_range h]; rfl
theorem tabR_zero (ws : List Int) (W : Nat) : tabR ws W 0 0 = List.replicate (W * W) ⟨0, 0, 0⟩ := by
  unfold tabR
  rw [List.eq_replicate_iff]
  refine ⟨by rw [List.length_map, List.length_range], fun b hb => ?_⟩
  obtain ⟨q, _, rfl⟩ := List.mem_map.1 hb
  unfold tabV
  rw [if_neg (by generalize q / W = a; generalize q % W = b; omega)]
theorem tabR_congr (ws : List Int) {W i j i' j' : Nat} (h : ∀ q, ((q / W < i ∨ (q / W = i ∧ q % W < j)) ∧ q / W < q % W) ↔ ((q / W < i' ∨ (q / W = i' ∧ q % W < j')) ∧ q / W < q % W)) : tabR ws W i j = tabR ws W i' j' := by
  unfold tabR
  refine List.map_congr_left fun q _ => ?_
  unfold tabV
  by_cases e : (q / W < i ∨ (q / W = i ∧ q % W < j)) ∧ q / W < q % W
  · rw [if_pos e, if_pos ((h q).1 e)]
  · rw [if_neg e, if_neg (fun hh => e ((h q).2 hh))]
theorem tabR_in (ws : List Int) (W i : Nat) : tabR ws W i 0 = tabR ws W i (i + 1) := tabR_congr ws fun q => by omega
theorem tabR_out (ws : List Int) {W : Nat} (hW : 0 < W) (i : Nat) : tabR ws W i W = tabR ws W (i + 1) 0 := tabR_congr ws fun q => by
  have := Nat.mod_lt q hW
  omega
theorem dm {W i j : Nat} (h : j < W) : (i * W + j) / W = i ∧ (i * W + j) % W = j := by
  have hW : 0 < W := by omega
  constructor
  · rw [Nat.mul_comm, Nat.mul_add_div hW, Nat.div_eq_of_lt h]; omega
  · rw [Nat.mul_comm, Nat.mul_add_mod, Nat.mod_eq_of_lt h]
theorem sq_lt {W i j : Nat} (hi : i < W) (hj : j < W) : i * W + j < W * W := by
  have h1 : i * W + W ≤ W * W := by rw [← Nat.succ_mul]; exact Nat.mul_le_mul_right _ hi
  omega
theorem tabR_set (ws : List Int) {W i j : Nat} (hij : i < j) (hj : j < W) : (tabR ws W i j).set (i * W + j) (lnW ws i (j - i)) = tabR ws W i (j + 1) := by
  have hq := sq_lt (show i < W by omega) hj
  obtain ⟨d1, d2⟩ := dm (i := i) hj
  refine nth_ext1 (by rw [List.length_set, tabR_len, tabR_len]) fun q hql => ?_
  rw [List.length_set, tabR_len] at hql
  rw [tabR_nth ws W i (j + 1) hql]
  by_cases e : q = i * W + j
  · rw [e]
    unfold nth
    rw [List.getD_eq_getElem?_getD, List.getElem?_set_self (by rw [tabR_len]; exact hq)]
    unfold tabV
    rw [d1, d2, if_pos ⟨.inr ⟨rfl, by omega⟩, hij⟩]
    rfl
  · have h2 : nth ((tabR ws W i j).set (i * W + j) (lnW ws i (j - i))) q = nth (tabR ws W i j) q := by
      unfold nth
      rw [List.getD_eq_getElem?_getD, List.getElem?_set_ne (fun h => e h.symm), List.getD_eq_getElem?_getD]
    rw [h2, tabR_nth ws W i j hql]
    unfold tabV
    have hne : ¬ (q / W = i ∧ q % W = j) := fun h => e (by rw [← h.1, ← h.2, Nat.mul_comm]; exact (Nat.div_add_mod q W).symm)
    by_cases e2 : (q / W < i ∨ (q / W = i ∧ q % W < j)) ∧ q / W < q % W
    · rw [if_pos e2, if_pos (by omega)]
    · rw [if_neg e2, if_neg (by omega)]
/-- the whole table -/
def tab (ws : List Int) : List Ln := tabR ws (ws.length + 1) (ws.length + 1) 0
theorem tab_len (ws : List Int) : (tab ws).length = (ws.length + 1) * (ws.length + 1) := tabR_len ..
theorem tab_nth (ws : List Int) {i j : Nat} (hij : i < j) (hj : j ≤ ws.length) : nth (tab ws) (i * (ws.length + 1) + j) = lnW ws i (j - i) := by
  have hq := sq_lt (W := ws.length + 1) (show i < ws.length + 1 by omega) (show j < ws.length + 1 by omega)
  obtain ⟨d1, d2⟩ := dm (W := ws.length + 1) (i := i) (j := j) (by omega)
  unfold tab
  rw [tabR_nth ws _ _ _ hq]
  unfold tabV
  rw [d1, d2, if_pos ⟨.inl (by omega), hij⟩]
abbrev owL (xs : List Ln) : Chunk := .own 37 Ln inferInstance 3 lE xs
theorem owLe {a b : List Ln} (h : a = b) : owL a = owL b := by rw [h]
theorem table_c (ws : List Int) (h1 : ws.length ≤ 30) (hW : Wd ws) (v : Value) (w : World) (S : Nat → Prop) (hS : ∀ b, S b → b < w.heap.size) (hv : DRep S w (.sl Int inferInstance 1 iE ws) v) :
    Calls Try.prog 12 #[v] w fun e w' => ∃ u, e = .returned u ∧ Below w.heap.size w w' ∧ repY (fun b => S b ∨ (w.heap.size ≤ b ∧ b < w'.heap.size)) w' (.sl Ln inferInstance 3 lE (tab ws)) u := by
  refine calls_exec2 (cf := cf) cfok rfl rfl (fn := Try.f12) Try.func12 rfl [.sl 0] [.rd Int inferInstance 1 iE ws] (ρ := fun _ => v) (· < w.heap.size) S rfl rfl rfl (by simp [svOkL, svOk]) rfl (memRd hS ⟨hv, trivial⟩) (fun b hb => ⟨hb, rd_own rfl b⟩) ?_
  obtain ⟨W, hWW⟩ : ∃ W, W = ws.length + 1 := ⟨_, rfl⟩
  have e1 : IntKind.i64.wrap ((ws.length : Int) + 1) = ((W : Nat) : Int) := by rw [i64_id _ (by omega) (by omega)]; omega
  have hsq : W * W ≤ 31 * 31 := Nat.mul_le_mul (by omega) (by omega)
  have e2 : IntKind.i64.wrap (IntKind.i64.wrap ((ws.length : Int) + 1) * IntKind.i64.wrap ((ws.length : Int) + 1)) = ((W * W : Nat) : Int) := by
    rw [e1, ← Int.natCast_mul, i64_id _ (by omega) (by omega)]
  refine ⟨Ln, inferInstance, lE, ⟨0, 0, 0⟩, rfl, by rw [e2]; omega, by rw [e2]; show (24 : Int) * _ ≤ _; omega, by rw [e2]; omega, rfl, ?_⟩
  refine ⟨{ i : Nat // i ≤ W }, fun i => ⟨62, [⟨0, [], .sl 0⟩, ⟨3, [], .v (.int .i64 (ws.length : Nat))⟩, ⟨4, [], .sl 1⟩, ⟨5, [], .v (.int .i64 (i.1 : Nat))⟩], [.rd Int inferInstance 1 iE ws, owL (tabR ws W i.1 0)], [], dropL nats 2⟩, fun i => W - i.1, ⟨[0, 1], ⟨0, by omega⟩, ?_⟩, fun i => ?_⟩
  · refine And.intro (And.intro rfl (And.intro rfl (And.intro rfl (And.intro rfl trivial)))) (And.intro rfl (And.intro (owLe ?_) trivial))
    rw [e2, Int.toNat_natCast, tabR_zero]
  obtain ⟨i, hi⟩ := i
  refine And.intro (fun hle => ?_) (fun hgt => ?_)
  · have hle : i < W := by
      have : ((i : Nat) : Int) ≤ ((ws.length : Nat) : Int) := of_decide_eq_true hle
      omega
    refine ⟨{ d : Nat // i + d < W }, fun d => ⟨62, [⟨0, [], .sl 0⟩, ⟨3, [], .v (.int .i64 (ws.length : Nat))⟩, ⟨4, [], .sl 1⟩, ⟨5, [], .v (.int .i64 (i : Nat))⟩, ⟨6, [], .bx 2 0⟩, ⟨7, [], .v (.int .i64 (i + d.1 + 1 : Nat))⟩], [.rd Int inferInstance 1 iE ws, owL (tabR ws W i (i + d.1 + 1)), .bx 37 [.v (.int .i64 (lnW ws i d.1).h), .v (.int .i64 (lnW ws i d.1).s), .v (.int .i64 (lnW ws i d.1).k)]], [], dropL nats 3⟩, fun d => W - d.1, ⟨[0, 1, 2], ⟨0, by omega⟩, ?_⟩, fun d => ?_⟩
    · exact And.intro (And.intro rfl (And.intro rfl (And.intro rfl (And.intro rfl (And.intro rfl (And.intro (svI (i64_succ i (by omega))) trivial)))))) (And.intro rfl (And.intro (owLe (tabR_in ws W i)) (And.intro (And.intro rfl rfl) trivial)))
    obtain ⟨d, hd⟩ := d
    refine And.intro (fun hjl => ?_) (fun hjg => ?_)
    · have hjl : i + d + 1 ≤ ws.length := by
        have : ((i + d + 1 : Nat) : Int) ≤ ((ws.length : Nat) : Int) := of_decide_eq_true hjl
        omega
      have hsq2 := sq_lt (show i < W by omega) (show i + d + 1 < W by omega)
      obtain ⟨⟨r1, r2⟩, ⟨r3, r4⟩, ⟨r5, r6⟩⟩ := lnW_range hW i d (by omega)
      have hwd := hW (i + d) (by omega)
      have ej : IntKind.i64.wrap (((i + d + 1 : Nat) : Int) - 1) = ((i + d : Nat) : Int) := by rw [i64_id _ (by omega) (by omega)]; omega
      refine Or.inr (Or.inr (Or.inl ⟨[0, 1, 2, 3, 4, 5, 6, 7, 8], [], [9], by kernel_rfl, ?_⟩))
      refine And.intro (show 0 ≤ IntKind.i64.wrap (((i + d + 1 : Nat) : Int) - 1) ∧ IntKind.i64.wrap (((i + d + 1 : Nat) : Int) - 1) < ((ws.length : Nat) : Int) from by rw [ej]; omega) ?_
      have ei : IntKind.i64.wrap ((i : Int) + 1) = ((i + 1 : Nat) : Int) := i64_succ i (by omega)
      have eh : IntKind.i64.wrap ((lnW ws i d).h + nth ws (IntKind.i64.wrap (((i + d + 1 : Nat) : Int) - 1)).toNat) = (lnW ws i d).h + nth ws (i + d) := by
        rw [ej, Int.toNat_natCast]; exact i64_id _ (by omega) (by omega)
      have e10 : IntKind.i64.wrap ((lnW ws i d).h + nth ws (i + d) + 10) = (lnW ws i d).h + nth ws (i + d) + 10 := i64_id _ (by omega) (by omega)
      have e5 : IntKind.i64.wrap ((lnW ws i d).s + 5) = (lnW ws i d).s + 5 := i64_id _ (by omega) (by omega)
      have e3 : IntKind.i64.wrap ((lnW ws i d).k + 3) = (lnW ws i d).k + 3 := i64_id _ (by omega) (by omega)
      have ex : IntKind.i64.wrap (IntKind.i64.wrap ((i : Int) * IntKind.i64.wrap ((ws.length : Int) + 1)) + ((i + d + 1 : Nat) : Int)) = ((i * W + (i + d + 1) : Nat) : Int) := by
        rw [e1, ← Int.natCast_mul, i64_id ((i * W : Nat) : Int) (by omega) (by omega), ← Int.natCast_add, i64_id _ (by omega) (by omega)]
      have hset := tabR_set ws (show i < i + d + 1 by omega) (show i + d + 1 < W by omega)
      rw [show i + d + 1 - i = d + 1 by omega] at hset
      have htl := tabR_len ws W i (i + d + 1)
      refine And.intro (fun hgt => ?_) (fun hgt => ?_)
      · have hgt : 0 < d := by
          have : ((i + d + 1 : Nat) : Int) > IntKind.i64.wrap ((i : Int) + 1) := of_decide_eq_true hgt
          rw [ei] at this
          omega
        have ely : lnW ws i (d + 1) = ⟨(lnW ws i d).h + nth ws (i + d) + 10, (lnW ws i d).s + 5, (lnW ws i d).k + 3⟩ := by
          rw [lnW, if_neg (by omega)]
        refine And.intro (show 0 ≤ IntKind.i64.wrap (IntKind.i64.wrap ((i : Int) * IntKind.i64.wrap ((ws.length : Int) + 1)) + ((i + d + 1 : Nat) : Int)) ∧ IntKind.i64.wrap (IntKind.i64.wrap ((i : Int) * IntKind.i64.wrap ((ws.length : Int) + 1)) + ((i + d + 1 : Nat) : Int)) < (((tabR ws W i (i + d + 1)).length : Nat) : Int) from by rw [ex, htl]; omega) ?_
        refine ⟨lnW ws i (d + 1), by rw [ely]; show _ = [DV.v (.int .i64 (IntKind.i64.wrap (IntKind.i64.wrap _ + 10))), DV.v (.int .i64 (IntKind.i64.wrap (_ + 5))), DV.v (.int .i64 (IntKind.i64.wrap (_ + 3)))]; rw [eh, e10, e5, e3], rfl, ?_⟩
        refine ⟨[0, 1, 2], ⟨d + 1, by omega⟩, And.intro (And.intro rfl (And.intro rfl (And.intro rfl (And.intro rfl (And.intro rfl (And.intro (svI (i64_succ (i + d + 1) (by omega))) trivial)))))) (And.intro rfl (And.intro (owLe ?_) (And.intro (And.intro rfl ?_) trivial))), by show W - (d + 1) < W - d; omega⟩
        · show (tabR ws W i (i + d + 1)).set (IntKind.i64.wrap (IntKind.i64.wrap ((i : Int) * IntKind.i64.wrap ((ws.length : Int) + 1)) + ((i + d + 1 : Nat) : Int))).toNat (lnW ws i (d + 1)) = tabR ws W i (i + d + 1 + 1)
          rw [ex, Int.toNat_natCast]
          exact hset
        · show _ = [SV.v (.int .i64 (lnW ws i (d + 1)).h), SV.v (.int .i64 (lnW ws i (d + 1)).s), SV.v (.int .i64 (lnW ws i (d + 1)).k)]
          rw [ely]
          show [SV.v (.int .i64 (IntKind.i64.wrap (IntKind.i64.wrap _ + 10))), SV.v (.int .i64 (IntKind.i64.wrap (_ + 5))), SV.v (.int .i64 (IntKind.i64.wrap (_ + 3)))] = _
          rw [eh, e10, e5, e3]
      · have hgt : d = 0 := by
          have : ¬ ((i + d + 1 : Nat) : Int) > IntKind.i64.wrap ((i : Int) + 1) := of_decide_eq_false hgt
          rw [ei] at this
          omega
        have ely : lnW ws i (d + 1) = ⟨(lnW ws i d).h + nth ws (i + d), (lnW ws i d).s, (lnW ws i d).k⟩ := by
          rw [lnW, if_pos hgt]
        refine And.intro (show 0 ≤ IntKind.i64.wrap (IntKind.i64.wrap ((i : Int) * IntKind.i64.wrap ((ws.length : Int) + 1)) + ((i + d + 1 : Nat) : Int)) ∧ IntKind.i64.wrap (IntKind.i64.wrap ((i : Int) * IntKind.i64.wrap ((ws.length : Int) + 1)) + ((i + d + 1 : Nat) : Int)) < (((tabR ws W i (i + d + 1)).length : Nat) : Int) from by rw [ex, htl]; omega) ?_
        refine ⟨lnW ws i (d + 1), by rw [ely]; show _ = [DV.v (.int .i64 (IntKind.i64.wrap _)), _, _]; rw [eh], rfl, ?_⟩
        refine ⟨[0, 1, 2], ⟨d + 1, by omega⟩, And.intro (And.intro rfl (And.intro rfl (And.intro rfl (And.intro rfl (And.intro rfl (And.intro (svI (i64_succ (i + d + 1) (by omega))) trivial)))))) (And.intro rfl (And.intro (owLe ?_) (And.intro (And.intro rfl ?_) trivial))), by show W - (d + 1) < W - d; omega⟩
        · show (tabR ws W i (i + d + 1)).set (IntKind.i64.wrap (IntKind.i64.wrap ((i : Int) * IntKind.i64.wrap ((ws.length : Int) + 1)) + ((i + d + 1 : Nat) : Int))).toNat (lnW ws i (d + 1)) = tabR ws W i (i + d + 1 + 1)
          rw [ex, Int.toNat_natCast]
          exact hset
        · show _ = [SV.v (.int .i64 (lnW ws i (d + 1)).h), SV.v (.int .i64 (lnW ws i (d + 1)).s), SV.v (.int .i64 (lnW ws i (d + 1)).k)]
          rw [ely]
          show [SV.v (.int .i64 (IntKind.i64.wrap _)), _, _] = _
          rw [eh]
    · have hjg : i + d + 1 = W := by
        have : ¬ ((i + d + 1 : Nat) : Int) ≤ ((ws.length : Nat) : Int) := of_decide_eq_false hjg
        omega
      refine ⟨[0, 1], ⟨i + 1, by omega⟩, And.intro (And.intro rfl (And.intro rfl (And.intro rfl (And.intro (svI (i64_succ i (by omega))) trivial)))) (And.intro rfl (And.intro (owLe ?_) trivial)), by show W - (i + 1) < W - i; omega⟩
      rw [hjg]
      exact tabR_out ws (by omega) i
  · have hgt : i = W := by
      have : ¬ ((i : Nat) : Int) ≤ ((ws.length : Nat) : Int) := of_decide_eq_false hgt
      omega
    subst hgt
    have : tab ws = tabR ws i i 0 := by unfold tab; rw [← hWW]
    refine fun ρ S w' hi' => ⟨_, rfl, hi'.below, ?_⟩
    rw [this]
    exact hi'.rep 40 (.sl 1) (.sl Ln inferInstance 3 lE _) rfl rfl
end Go.Proofs.Ytiaaiihdamkeaaa
