/- parbreak.Break. -/
import Derived.Test.YtiaaiihdamkeaaaK6
set_option maxRecDepth 100000
set_option linter.unusedVariables false
namespace Go.Proofs.Ytiaaiihdamkeaaa
open Go Go.Eng Go.RowKit Go.Ar

/-- the way from a place on -/
def wayF (p : Par) : Nat → Nat → Nat → List Nat
  | 0, _, _ => []
  | m + 1, at', k => if at' < p.n then (best p at' k).1 :: wayF p m (best p at' k).1 (k + 1) else []
theorem best_next (p : Par) {from' : Nat} (h : from' < p.n) (k : Nat) : from' < (best p from' k).1 ∧ (best p from' k).1 ≤ p.n := by
  rw [best_eq p h k]
  have hg : ∀ j, 0 ≤ (if j ≤ p.n then (best p j (k + 1)).2 else 0) := fun j => by
    split
    · rename_i hj; exact (best_range p (k + 1) hj).1
    · omega
  rw [scanF_congr p (g := fun j => if j ≤ p.n then (best p j (k + 1)).2 else 0) from' k _ _ _ (fun i h3 h4 => by
    show (best p i (k + 1)).2 = if i ≤ p.n then (best p i (k + 1)).2 else 0
    rw [if_pos (by omega)])]
  exact scanF_next p _ from' k _ _ _ (by omega) (by omega) (.inl (by decide)) (fun _ => by omega) hg
theorem wayF_fuel (p : Par) : ∀ (m m' at' k : Nat), p.n - at' ≤ m → p.n - at' ≤ m' → wayF p m at' k = wayF p m' at' k
  | 0, 0, _, _, _, _ => rfl
  | 0, m' + 1, at', k, h, _ => by unfold wayF; rw [if_neg (by omega)]
  | m + 1, 0, at', k, _, h => by unfold wayF; rw [if_neg (by omega)]
  | m + 1, m' + 1, at', k, h1, h2 => by
    unfold wayF
    by_cases e : at' < p.n
    · rw [if_pos e, if_pos e, wayF_fuel p m m' _ _ (by have := best_next p e k; omega) (by have := best_next p e k; omega)]
    · rw [if_neg e, if_neg e]
def wayL (p : Par) (at' k : Nat) : List Nat := wayF p (p.n - at') at' k
theorem wayL_end (p : Par) {at' : Nat} (k : Nat) (h : ¬ at' < p.n) : wayL p at' k = [] := by
  unfold wayL; rw [show p.n - at' = 0 by omega]; rfl
theorem wayL_step (p : Par) {at' : Nat} (k : Nat) (h : at' < p.n) : wayL p at' k = (best p at' k).1 :: wayL p (best p at' k).1 (k + 1) := by
  have hb := best_next p h k
  unfold wayL
  rw [show p.n - at' = p.n - at' - 1 + 1 by omega, wayF, if_pos h, wayF_fuel p (p.n - at' - 1) (p.n - (best p at' k).1) _ _ (by omega) (by omega)]
def BreakR (ds : List DV) (S : Nat → Prop) (w0 : World) (e : Ending) (w' : World) : Prop :=
  ∃ us, e = .returned (.tuple us.toArray) ∧ Below w0.heap.size w0 w' ∧ repYs (fun b => S b ∨ (w0.heap.size ≤ b ∧ b < w'.heap.size)) w' ds us
abbrev nE : Nat → List DV := fun n => [.v (.int .i64 (n : Nat))]
abbrev brkD (way : List Nat) (sum e : Int) : List DV := [.sl Nat inferInstance 1 nE way, .v (.int .i64 sum), .v (.int .i64 e)]
theorem break_no (must : List Bool) (lines : List Ln) (ws : List Int) (hMay : ¬ May must lines ws) (h1 : must.length ≤ 9223372036854775807) (h2 : lines.length ≤ 9223372036854775807) (h3 : ws.length ≤ 9223372036854775807) (mv lv wv : Value) (w : World) (S : Nat → Prop) (hS : ∀ b, S b → b < w.heap.size)
    (hm : DRep S w (.sl Bool inferInstance 1 bE must) mv) (hl : DRep S w (.sl Ln inferInstance 3 lE lines) lv) (hw : DRep S w (.sl Int inferInstance 1 iE ws) wv) :
    Calls Try.prog 8 #[mv, lv, wv] w (BreakR (brkD [] 0 2) S w) := by
  refine calls_exec2 (cf := cf) cfok rfl rfl (fn := Try.f8) Try.func8 rfl [.sl 0, .sl 1, .sl 2] [.rd Bool inferInstance 1 bE must, .rd Ln inferInstance 3 lE lines, .rd Int inferInstance 1 iE ws] (ρ := fun i => match i with | 0 => mv | 1 => lv | _ => wv) (· < w.heap.size) S rfl rfl rfl (by simp [svOkL, svOk]) rfl (memRd hS ⟨hm, hl, hw, trivial⟩) (fun b hb => ⟨hb, rd_own rfl b⟩) ?_
  refine Or.inl ⟨.tuple #[.pointer none, .bool false], fun ρ S w hm => (made_c must lines ws h1 h2 h3 _ _ _ w S hm.lt (hm.rdS 0 rfl rfl) (hm.rdS 1 rfl rfl) (hm.rdS 2 rfl rfl)).mono fun e w' hh => ⟨(hh.2.resolve_right fun ⟨h, _⟩ => hMay h).2, hh.1⟩, ?_⟩
  refine And.intro (fun _ => ?_) (fun h => by cases h)
  exact fun ρ S' w' hi => ⟨_, rfl, hi.below, DRep.nil, rfl, rfl, trivial⟩
structure Sb (p : Par) where
  a : Nat
  acc : List Nat
  ha : a ≤ p.n
  hk : acc.length ≤ a
  he : acc ++ wayL p a acc.length = wayL p 0 0
theorem break_p (p : Par) (hMay : May p.must p.lines p.ws) (hp : hMay.par = p) (mv lv wv : Value) (w : World) (S : Nat → Prop) (hS : ∀ b, S b → b < w.heap.size)
    (hm : DRep S w (.sl Bool inferInstance 1 bE p.must) mv) (hl : DRep S w (.sl Ln inferInstance 3 lE p.lines) lv) (hw : DRep S w (.sl Int inferInstance 1 iE p.ws) wv) :
    Calls Try.prog 8 #[mv, lv, wv] w (BreakR (brkD (wayL p 0 0) (best p 0 0).2 0) S w) := by
  refine calls_exec2 (cf := cf) cfok rfl rfl (fn := Try.f8) Try.func8 rfl [.sl 0, .sl 1, .sl 2] [.rd Bool inferInstance 1 bE p.must, .rd Ln inferInstance 3 lE p.lines, .rd Int inferInstance 1 iE p.ws] (ρ := fun i => match i with | 0 => mv | 1 => lv | _ => wv) (· < w.heap.size) S rfl rfl rfl (by simp [svOkL, svOk]) rfl (memRd hS ⟨hm, hl, hw, trivial⟩) (fun b hb => ⟨hb, rd_own rfl b⟩) ?_
  have hn := p.hn
  have hsq := sq_le p.hn.2 (i := 0) (j := 0) (by omega) (by omega)
  refine Or.inr (lcall_reps [.ptr (parD p), .v (.bool true)] (fun ρ S w hm => (made_c p.must p.lines p.ws (by rw [p.hm]; omega) (by rw [p.hl]; omega) (by have := p.hw; omega) _ _ _ w S hm.lt (hm.rdS 0 rfl rfl) (hm.rdS 1 rfl rfl) (hm.rdS 2 rfl rfl)).mono fun e w' hh => by
    obtain ⟨_, v, he, hd⟩ := hh.2.resolve_left fun h => h.1 hMay
    rw [hp] at hd
    exact ⟨[v, .bool true], he, hh.1, hd, rfl, trivial⟩) ?_)
  refine And.intro (fun h => by cases h) (fun _ => ?_)
  refine gop_makeMap (memoOk p) (memo0 p) ?_
  refine Or.inr (lcall_sub [5, 6, 4, 8, 9, 3, 7, 2, 0] (best_all p _ 0 0 (by omega) (Nat.le_refl _) (by omega)) rfl rfl rfl rfl rfl (And.intro ⟨rfl, rfl⟩ (And.intro (And.intro rfl rfl) (And.intro (And.intro rfl rfl) (And.intro (And.intro rfl rfl) (And.intro (And.intro rfl rfl) (And.intro (And.intro rfl rfl) (And.intro (fun _ h => h) (And.intro rfl (And.intro rfl trivial))))))))) ?_)
  refine ⟨Sb p, fun s => ⟨48, [⟨9, [], .bx 6 0⟩, ⟨12, [], .bx 9 0⟩, ⟨13, [], .v (.int .i64 (best p 0 0).2)⟩, ⟨14, [], .sl 10⟩, ⟨15, [], .v (.int .i64 (s.a : Nat))⟩], [.rd Bool inferInstance 1 bE p.must, .rd Ln inferInstance 3 lE p.lines, .rd Int inferInstance 1 iE p.ws, .bx 22 [.sl 0], .bx 24 [.sl 2], .rp [] (parD p), .bx 41 [.bx 5 0], .ob (memoOk p), .bx 44 [.sl 7], .bx 45 [.fn 15 [.bx 6 0, .bx 4 0, .bx 8 0, .bx 9 0, .bx 3 0]], .own 3 Nat inferInstance 1 nE s.acc], [], dropL nats 11⟩, fun s => p.n - s.a, ⟨[0, 1, 2, 3, 4, 5, 6, 7, 8, 9, 1000], ⟨0, [], by omega, Nat.le_refl _, rfl⟩, ?_⟩, fun s => ?_⟩
  · exact And.intro (And.intro rfl (And.intro rfl (And.intro rfl (And.intro rfl (And.intro rfl trivial))))) (And.intro (rfl) (And.intro (rfl) (And.intro (rfl) (And.intro (And.intro rfl rfl) (And.intro (And.intro rfl rfl) (And.intro (⟨rfl, rfl⟩) (And.intro (And.intro rfl rfl) (And.intro (fun _ h => h) (And.intro (And.intro rfl rfl) (And.intro (And.intro rfl rfl) (And.intro (rfl) trivial)))))))))))
  obtain ⟨a, acc, ha, hk, he⟩ := s
  refine And.intro (fun hlt => ?_) (fun hge => ?_)
  · have hlt : a < p.n := by
      have : ((a : Nat) : Int) < ((p.n : Nat) : Int) := of_decide_eq_true hlt
      omega
    refine Or.inr (lcall_sub [5, 6, 4, 8, 9, 3, 7, 2, 0] (best_all p _ a acc.length (by omega) (Nat.le_refl _) (by omega)) rfl rfl rfl rfl rfl (And.intro ⟨rfl, rfl⟩ (And.intro (And.intro rfl rfl) (And.intro (And.intro rfl rfl) (And.intro (And.intro rfl rfl) (And.intro (And.intro rfl rfl) (And.intro (And.intro rfl rfl) (And.intro (fun _ h => h) (And.intro rfl (And.intro rfl trivial))))))))) ?_)
    have hb := best_next p hlt acc.length
    refine ⟨[(best p a acc.length).1], ⟨rfl, rfl, by simp⟩, by show (acc.length + 1) * 8 ≤ _; omega, ?_⟩
    refine ⟨[0, 1, 2, 3, 4, 5, 6, 7, 8, 9, 12], ⟨(best p a acc.length).1, acc ++ [(best p a acc.length).1], hb.2, by rw [List.length_append]; show acc.length + 1 ≤ _; omega, ?_⟩, ?_, by show p.n - (best p a acc.length).1 < p.n - a; omega⟩
    · rw [← he, wayL_step p acc.length hlt, List.append_assoc, List.length_append]; rfl
    · exact And.intro (And.intro rfl (And.intro rfl (And.intro rfl (And.intro rfl (And.intro rfl trivial))))) (And.intro (rfl) (And.intro (rfl) (And.intro (rfl) (And.intro (And.intro rfl rfl) (And.intro (And.intro rfl rfl) (And.intro (⟨rfl, rfl⟩) (And.intro (And.intro rfl rfl) (And.intro (fun _ h => h) (And.intro (And.intro rfl rfl) (And.intro (And.intro rfl rfl) (And.intro (rfl) trivial)))))))))))
  · have hge : ¬ a < p.n := by
      have : ¬ ((a : Nat) : Int) < ((p.n : Nat) : Int) := of_decide_eq_false hge
      omega
    rw [wayL_end p _ hge, List.append_nil] at he
    subst he
    exact fun ρ S' w' hi => ⟨[den ρ (.sl 10), .int .i64 _, .int .i64 0], rfl, hi.below, hi.rep 40 (.sl 10) (.sl Nat inferInstance 1 nE _) rfl rfl, rfl, rfl, trivial⟩
end Go.Proofs.Ytiaaiihdamkeaaa
