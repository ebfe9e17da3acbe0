/- parbreak: which numbers may be, the first one that may not be, and a paragraph made. -/
import Derived.Test.YtiaaiihdamkeaaaK5
set_option maxRecDepth 100000
set_option linter.unusedVariables false
namespace Go.Proofs.Ytiaaiihdamkeaaa
open Go Go.Eng Go.RowKit Go.Ar

def badB (n : Int) : Bool := decide (n < 0) || decide (n > 1099511627776)
theorem bad_c (n : Int) (w : World) : Calls Try.prog 19 #[.int .i64 n] w fun e w' => e = .returned (.bool (badB n)) ∧ Below w.heap.size w w' := by
  refine calls_exec (cf := cf) cfok (fn := Try.f19) Try.func19 rfl [.v (.int .i64 n)] [] (ρ := fun _ => undef) (· < w.heap.size) rfl rfl rfl (by simp [svOkL, svOk]) (memNil fun _ h => h) ?_
  exact fun ρ S w' hi => ⟨rfl, hi.below⟩
theorem retI1 {k : IntKind} {a b : Int} (h : a = b) : Ending.returned (.int k a) = Ending.returned (.int k b) := by rw [h]
/-- the first place where it holds, or -1 -/
def idxF {α : Type} (p : α → Bool) : List α → Nat → Int
  | [], _ => -1
  | x :: r, i => if p x = true then (i : Int) else idxF p r (i + 1)
theorem idxF_drop {α : Type} [Inhabited α] (p : α → Bool) (xs : List α) : ∀ i, i < xs.length → idxF p (xs.drop i) i = if p (nth xs i) = true then (i : Int) else idxF p (xs.drop (i + 1)) (i + 1) := by
  intro i hi
  have : xs.drop i = nth xs i :: xs.drop (i + 1) := by
    rw [List.drop_eq_getElem_cons hi]
    unfold nth
    rw [List.getD_eq_getElem?_getD, List.getElem?_eq_getElem hi]
    rfl
  rw [this]; rfl
theorem idxF_any {α : Type} (p : α → Bool) : ∀ (xs : List α) (i : Nat), decide (0 ≤ idxF p xs i) = xs.any p
  | [], i => rfl
  | x :: r, i => by
    unfold idxF
    rw [List.any_cons, ← idxF_any p r (i + 1)]
    cases p x with
    | true => rw [if_pos rfl, Bool.true_or]; exact decide_eq_true (by omega)
    | false => rw [if_neg (by decide), Bool.false_or]
theorem badIdx_c (xs : List Int) (hx : xs.length ≤ 9223372036854775807) (sv : Value) (w : World) (hs : Rd w sv 1 iE xs) :
    Calls Try.prog 23 #[sv, .func (.func 19) #[] #[]] w fun e w' => e = .returned (.int .i64 (idxF badB xs 0)) ∧ Below w.heap.size w w' := by
  refine calls_exec (cf := cf) cfok (fn := Try.f23) Try.func23 rfl [.sl 0, .fn 19 []] [.rd Int inferInstance 1 iE xs] (ρ := fun _ => sv) (· < w.heap.size) rfl rfl rfl (by simp [svOkL, svOk]) (memRd (fun _ h => h) ⟨hs, trivial⟩) ?_
  refine ⟨{ i : Nat // i ≤ xs.length ∧ idxF badB xs 0 = idxF badB (xs.drop i) i }, fun i => ⟨19, [⟨0, [], .sl 0⟩, ⟨1, [], .fn 19 []⟩, ⟨7, [], .v (.int .i64 xs.length)⟩, ⟨8, [], .v (.int .i64 i.1)⟩], [.rd Int inferInstance 1 iE xs], [], dropL nats 1⟩, fun i => xs.length - i.1, ⟨[0], ⟨0, by omega, rfl⟩, ?_⟩, fun i => ?_⟩
  · exact And.intro (And.intro rfl (And.intro rfl (And.intro rfl (And.intro rfl trivial)))) (And.intro rfl trivial)
  obtain ⟨i, hi, hall⟩ := i
  refine And.intro (fun hlt => ?_) (fun hge => ?_)
  · have hlt : i < xs.length := by have : (i : Int) < (xs.length : Int) := of_decide_eq_true hlt
                                   omega
    rw [idxF_drop _ xs i hlt] at hall
    refine And.intro (show (0 : Int) ≤ (i : Int) ∧ (i : Int) < (xs.length : Int) from ⟨by omega, by omega⟩) ?_
    refine Or.inl ⟨.bool (badB (nth xs i)), fun ρ S w hm => bad_c _ w, ?_⟩
    refine And.intro (fun hb => ?_) (fun hb => ?_)
    · have hb : badB (nth xs i) = true := hb
      rw [if_pos hb] at hall
      exact fun ρ S w' hi' => ⟨retI1 hall.symm, hi'.below⟩
    · have hb : badB (nth xs i) = false := hb
      rw [if_neg (fun h => by rw [hb] at h; cases h)] at hall
      exact ⟨[0], ⟨i + 1, hlt, hall⟩, And.intro (And.intro rfl (And.intro rfl (And.intro rfl (And.intro (svI (i64_succ i (by omega))) trivial)))) (And.intro rfl trivial), by show _ - (i + 1) < _ - i; omega⟩
  · have hge : i = xs.length := by have : ¬ (i : Int) < (xs.length : Int) := of_decide_eq_false hge
                                   omega
    subst hge
    rw [List.drop_length] at hall
    exact fun ρ S w' hi' => ⟨retI1 hall.symm, hi'.below⟩
theorem retB {a b : Bool} (h : a = b) : Ending.returned (.bool a) = Ending.returned (.bool b) := by rw [h]
theorem badAny_c (xs : List Int) (hx : xs.length ≤ 9223372036854775807) (sv : Value) (w : World) (hs : Rd w sv 1 iE xs) :
    Calls Try.prog 18 #[sv, .func (.func 19) #[] #[]] w fun e w' => e = .returned (.bool (xs.any badB)) ∧ Below w.heap.size w w' := by
  refine calls_exec (cf := cf) cfok (fn := Try.f18) Try.func18 rfl [.sl 0, .fn 19 []] [.rd Int inferInstance 1 iE xs] (ρ := fun _ => sv) (· < w.heap.size) rfl rfl rfl (by simp [svOkL, svOk]) (memRd (fun _ h => h) ⟨hs, trivial⟩) ?_
  refine Or.inl ⟨.int .i64 (idxF badB xs 0), fun ρ S w hm => badIdx_c xs hx _ w (hm.rd 0 rfl rfl), ?_⟩
  exact fun ρ S w' hi' => ⟨retB (idxF_any badB xs 0), hi'.below⟩
/-- the same over a row of yes and no -/
theorem trueIdx_c (xs : List Bool) (hx : xs.length ≤ 9223372036854775807) (sv : Value) (w : World) (hs : Rd w sv 1 bE xs) :
    Calls Try.prog 22 #[sv, .bool true] w fun e w' => e = .returned (.int .i64 (idxF (fun b => b) xs 0)) ∧ Below w.heap.size w w' := by
  refine calls_exec (cf := cf) cfok (fn := Try.f22) Try.func22 rfl [.sl 0, .v (.bool true)] [.rd Bool inferInstance 1 bE xs] (ρ := fun _ => sv) (· < w.heap.size) rfl rfl rfl (by simp [svOkL, svOk]) (memRd (fun _ h => h) ⟨hs, trivial⟩) ?_
  refine ⟨{ i : Nat // i ≤ xs.length ∧ idxF (fun b => b) xs 0 = idxF (fun b => b) (xs.drop i) i }, fun i => ⟨19, [⟨0, [], .sl 0⟩, ⟨1, [], .v (.bool true)⟩, ⟨7, [], .v (.int .i64 xs.length)⟩, ⟨8, [], .v (.int .i64 i.1)⟩], [.rd Bool inferInstance 1 bE xs], [], dropL nats 1⟩, fun i => xs.length - i.1, ⟨[0], ⟨0, by omega, rfl⟩, ?_⟩, fun i => ?_⟩
  · exact And.intro (And.intro rfl (And.intro rfl (And.intro rfl (And.intro rfl trivial)))) (And.intro rfl trivial)
  obtain ⟨i, hi, hall⟩ := i
  refine And.intro (fun hlt => ?_) (fun hge => ?_)
  · have hlt : i < xs.length := by have : (i : Int) < (xs.length : Int) := of_decide_eq_true hlt
                                   omega
    rw [idxF_drop _ xs i hlt] at hall
    refine And.intro (show (0 : Int) ≤ (i : Int) ∧ (i : Int) < (xs.length : Int) from ⟨by omega, by omega⟩) ?_
    refine And.intro (fun hb => ?_) (fun hb => ?_)
    · have hb : nth xs i = true := by
        have h : decide (true = nth xs i) = true := hb
        exact (of_decide_eq_true h).symm
      rw [if_pos hb] at hall
      exact fun ρ S w' hi' => ⟨retI1 hall.symm, hi'.below⟩
    · have hb : ¬ nth xs i = true := by
        have h : decide (true = nth xs i) = false := hb
        exact fun h' => of_decide_eq_false h h'.symm
      rw [if_neg hb] at hall
      exact ⟨[0], ⟨i + 1, hlt, hall⟩, And.intro (And.intro rfl (And.intro rfl (And.intro rfl (And.intro (svI (i64_succ i (by omega))) trivial)))) (And.intro rfl trivial), by show _ - (i + 1) < _ - i; omega⟩
  · have hge : i = xs.length := by have : ¬ (i : Int) < (xs.length : Int) := of_decide_eq_false hge
                                   omega
    subst hge
    rw [List.drop_length] at hall
    exact fun ρ S w' hi' => ⟨retI1 hall.symm, hi'.below⟩
theorem trueAny_c (xs : List Bool) (hx : xs.length ≤ 9223372036854775807) (sv : Value) (w : World) (hs : Rd w sv 1 bE xs) :
    Calls Try.prog 17 #[sv, .bool true] w fun e w' => e = .returned (.bool (xs.any fun b => b)) ∧ Below w.heap.size w w' := by
  refine calls_exec (cf := cf) cfok (fn := Try.f17) Try.func17 rfl [.sl 0, .v (.bool true)] [.rd Bool inferInstance 1 bE xs] (ρ := fun _ => sv) (· < w.heap.size) rfl rfl rfl (by simp [svOkL, svOk]) (memRd (fun _ h => h) ⟨hs, trivial⟩) ?_
  refine Or.inl ⟨.int .i64 (idxF (fun b => b) xs 0), fun ρ S w hm => trueIdx_c xs hx _ w (hm.rd 0 rfl rfl), ?_⟩
  exact fun ρ S w' hi' => ⟨retB (idxF_any _ xs 0), hi'.below⟩

/-! made -/
theorem rd_own {chs : List Chunk} {ρ : Nat → Value} (h : chs.all (fun c => match c with | .rd .. => true | .rp .. => true | _ => false) = true) (b : Nat) : ∀ i, i < chs.length → ownBlk (chGet chs i) (ρ i) ≠ some b := by
  have key : ∀ (chs : List Chunk), chs.all (fun c => match c with | .rd .. => true | .rp .. => true | _ => false) = true → ∀ i, ∀ v, ownBlk (chGet chs i) v = none := by
    intro chs
    induction chs with
    | nil => intro _ i v; rfl
    | cons c r ih =>
      intro h i v
      rw [List.all_cons, Bool.and_eq_true] at h
      cases i with
      | zero =>
        have h1 := h.1
        cases c <;> first | rfl | cases h1
      | succ i => exact ih h.2 i v
  intro i _ e
  rw [key chs h i] at e
  cases e

def okLn (x : Ln) : Bool := !(badB x.h || badB x.s || badB x.k)
structure May (must : List Bool) (lines : List Ln) (ws : List Int) : Prop where
  m : 2 ≤ must.length ∧ must.length ≤ 257
  l : lines.length = must.length * must.length
  w : 1 ≤ ws.length ∧ ws.length ≤ 65536
  b : ws.any badB = false
  x : ∀ i j, i < j → j < must.length → okLn (nth lines (i * must.length + j)) = true
def par (must : List Bool) (lines : List Ln) (ws : List Int) (m : 2 ≤ must.length ∧ must.length ≤ 257) (l : lines.length = must.length * must.length) (w : 1 ≤ ws.length ∧ ws.length ≤ 65536) : Par :=
  ⟨must, lines, ws, must.length - 1, by omega, by omega, by rw [l, show must.length - 1 + 1 = must.length by omega], w⟩
def May.par {must : List Bool} {lines : List Ln} {ws : List Int} (h : May must lines ws) : Par := Go.Proofs.Ytiaaiihdamkeaaa.par must lines ws h.m h.l h.w
def MadeR (must : List Bool) (lines : List Ln) (ws : List Int) (S : Nat → Prop) (w0 : World) (e : Ending) (w' : World) : Prop :=
  Below w0.heap.size w0 w' ∧ ((¬ May must lines ws ∧ e = .returned (.tuple #[.pointer none, .bool false])) ∨ (∃ h : May must lines ws, ∃ v, e = .returned (.tuple #[v, .bool true]) ∧ DRep (fun b => S b ∨ (w0.heap.size ≤ b ∧ b < w'.heap.size)) w' (.ptr (parD h.par)) v))
theorem made_c (must : List Bool) (lines : List Ln) (ws : List Int) (h1 : must.length ≤ 9223372036854775807) (h2 : lines.length ≤ 9223372036854775807) (h3 : ws.length ≤ 9223372036854775807) (mv lv wv : Value) (w : World) (S : Nat → Prop) (hS : ∀ b, S b → b < w.heap.size)
    (hm : DRep S w (.sl Bool inferInstance 1 bE must) mv) (hl : DRep S w (.sl Ln inferInstance 3 lE lines) lv) (hw : DRep S w (.sl Int inferInstance 1 iE ws) wv) :
    Calls Try.prog 14 #[mv, lv, wv] w (MadeR must lines ws S w) := by
  refine calls_exec2 (cf := cf) cfok rfl rfl (fn := Try.f14) Try.func14 rfl [.sl 0, .sl 1, .sl 2] [.rd Bool inferInstance 1 bE must, .rd Ln inferInstance 3 lE lines, .rd Int inferInstance 1 iE ws] (ρ := fun i => match i with | 0 => mv | 1 => lv | _ => wv) (· < w.heap.size) S rfl rfl rfl (by simp [svOkL, svOk]) rfl (memRd hS ⟨hm, hl, hw, trivial⟩) (fun b hb => ⟨hb, rd_own rfl b⟩) ?_
  have e1 : IntKind.i64.wrap ((must.length : Int) - 1) = (must.length : Int) - 1 := i64_id _ (by omega) (by omega)
  refine Or.inl ⟨.bool (ws.any badB), fun hg ρ S w hm => badAny_c ws h3 _ w (hm.rd 2 rfl rfl), ?_⟩
  refine And.intro (fun hbad => ?_) (fun hok => ?_)
  · refine fun ρ S' w' hi => ⟨hi.below, .inl ⟨fun h => ?_, rfl⟩⟩
    have hm1 := h.m
    have hl1 := h.l
    have hw1 := h.w
    have e2 : IntKind.i64.wrap ((must.length : Int) * (must.length : Int)) = ((lines.length : Nat) : Int) := by
      rw [← Int.natCast_mul, ← hl1]
      exact i64_id _ (by omega) (by omega)
    simp only [e1, e2, h.b, Bool.or_eq_true, decide_eq_true_eq, Bool.not_eq_true', decide_eq_false_iff_not, Bool.false_eq_true, or_false, not_true_eq_false] at hbad
    omega
  simp only [e1, Bool.or_eq_false_iff, decide_eq_false_iff_not, Bool.not_eq_false', decide_eq_true_eq] at hok
  obtain ⟨⟨⟨⟨⟨k1, k2⟩, k3⟩, k4⟩, k5⟩, k6⟩ := hok
  have hm1 : 2 ≤ must.length ∧ must.length ≤ 257 := by omega
  have hsq : must.length * must.length ≤ 257 * 257 := Nat.mul_le_mul (by omega) (by omega)
  have hl1 : lines.length = must.length * must.length := by
    rw [← Int.natCast_mul, i64_id _ (by omega) (by omega)] at k3
    omega
  have hw1 : 1 ≤ ws.length ∧ ws.length ≤ 65536 := by omega
  obtain ⟨p, hp⟩ : ∃ p, p = par must lines ws hm1 hl1 hw1 := ⟨_, rfl⟩
  have pm : p.must = must := by rw [hp]; rfl
  have pl : p.lines = lines := by rw [hp]; rfl
  have pw : p.ws = ws := by rw [hp]; rfl
  have pn : p.n = must.length - 1 := by rw [hp]; rfl
  have en : IntKind.i64.wrap ((must.length : Int) - 1) = ((p.n : Nat) : Int) := by rw [e1, pn]; omega
  have hpn := p.hn
  have hlnF : ∀ i j, lnF p i j = nth lines (i * must.length + j) := fun i j => by unfold lnF; rw [pl, pn, show must.length - 1 + 1 = must.length by omega]
  have hrep : parD p = [.v (.int .i64 (p.n : Nat)), .sl Bool inferInstance 1 bE must, .sl Ln inferInstance 3 lE lines, .sl Int inferInstance 1 iE ws] := by
    unfold parD; rw [pm, pl, pw]
  refine ⟨{ i : Nat // i ≤ p.n ∧ ∀ i' j, i' < i → i' < j → j < must.length → okLn (lnF p i' j) = true }, fun i => ⟨92, [⟨6, [], .v (.pointer none)⟩, ⟨7, [], .v (.bool false)⟩, ⟨8, [], .bx 3 0⟩, ⟨59, [], .v (.int .i64 (p.n : Nat))⟩, ⟨60, [], .v (.int .i64 (i.1 : Nat))⟩],
    [.rd Bool inferInstance 1 bE must, .rd Ln inferInstance 3 lE lines, .rd Int inferInstance 1 iE ws, .bx 49 [.v (.int .i64 (p.n : Nat)), .sl 0, .sl 1, .sl 2]], [], dropL nats 4⟩, fun i => p.n - i.1, ⟨[0, 1, 2, 3], ⟨0, by omega, fun i' j h => absurd h (by omega)⟩, ?_⟩, fun i => ?_⟩
  · exact And.intro (And.intro rfl (And.intro rfl (And.intro rfl (And.intro (svI en) (And.intro rfl trivial))))) (And.intro rfl (And.intro rfl (And.intro rfl (And.intro (And.intro rfl (congrArg (fun z : Int => [SV.v (.int .i64 z), .sl 0, .sl 1, .sl 2]) en)) trivial))))
  obtain ⟨i, hi, hall⟩ := i
  refine And.intro (fun hlt => ?_) (fun hge => ?_)
  · have hlt : i < p.n := by
      have : ((i : Nat) : Int) < ((p.n : Nat) : Int) := of_decide_eq_true hlt
      omega
    refine ⟨{ j : Nat // i < j ∧ j ≤ p.n + 1 ∧ ∀ j', i < j' → j' < j → okLn (lnF p i j') = true }, fun j => ⟨92, [⟨6, [], .v (.pointer none)⟩, ⟨7, [], .v (.bool false)⟩, ⟨8, [], .bx 3 0⟩, ⟨9, [], .v (.int .i64 (i : Nat))⟩, ⟨10, [], .v (.int .i64 (j.1 : Nat))⟩, ⟨59, [], .v (.int .i64 (p.n : Nat))⟩, ⟨60, [], .v (.int .i64 (i : Nat))⟩],
      [.rd Bool inferInstance 1 bE must, .rd Ln inferInstance 3 lE lines, .rd Int inferInstance 1 iE ws, .bx 49 [.v (.int .i64 (p.n : Nat)), .sl 0, .sl 1, .sl 2]], [], dropL nats 4⟩, fun j => p.n + 1 - j.1, ⟨[0, 1, 2, 3], ⟨i + 1, by omega, by omega, fun j' h h' => absurd h' (by omega)⟩, ?_⟩, fun j => ?_⟩
    · exact And.intro (And.intro rfl (And.intro rfl (And.intro rfl (And.intro rfl (And.intro (svI (i64_succ i (by omega))) (And.intro rfl (And.intro rfl trivial))))))) (And.intro rfl (And.intro rfl (And.intro rfl (And.intro (And.intro rfl rfl) trivial))))
    obtain ⟨j, hj0, hj1, hjall⟩ := j
    refine And.intro (fun hle => ?_) (fun hgt => ?_)
    · have hle : j ≤ p.n := by
        have : ((j : Nat) : Int) ≤ ((p.n : Nat) : Int) := of_decide_eq_true hle
        omega
      refine Or.inr (lcall_repA [.v (.int .i64 (lnF p i j).h), .v (.int .i64 (lnF p i j).s), .v (.int .i64 (lnF p i j).k)] (fun ρ S w hm => (line_c p i j (by omega) hle _ w (hm.rep 40 (.bx 3 0) (.ptr (parD p)) rfl (by rw [hrep]; rfl))).mono fun e w' hh => ⟨[_, _, _], hh.1, hh.2, rfl, rfl, rfl, trivial⟩) ?_)
      refine Or.inl ⟨_, fun ρ S w hm => bad_c _ w, ?_⟩
      refine Or.inl ⟨_, fun _ ρ S w hm => bad_c _ w, ?_⟩
      refine Or.inl ⟨_, fun _ ρ S w hm => bad_c _ w, ?_⟩
      have hjm : j < must.length := by omega
      refine And.intro (fun hb => ?_) (fun hb => ?_)
      · refine fun ρ S' w' hi => ⟨hi.below, .inl ⟨fun h => ?_, rfl⟩⟩
        have := h.x i j hj0 hjm
        rw [← hlnF] at this
        unfold okLn at this
        rw [show (badB (lnF p i j).h || badB (lnF p i j).s || badB (lnF p i j).k) = true from hb] at this
        exact absurd this (by decide)
      · exact ⟨[0, 1, 2, 3], ⟨j + 1, by omega, by omega, fun j' h h' => by
          by_cases e : j' = j
          · rw [e]; unfold okLn; rw [show (badB (lnF p i j).h || badB (lnF p i j).s || badB (lnF p i j).k) = false from hb]; rfl
          · exact hjall j' h (by omega)⟩, And.intro (And.intro rfl (And.intro rfl (And.intro rfl (And.intro rfl (And.intro (svI (i64_succ j (by omega))) (And.intro rfl (And.intro rfl trivial))))))) (And.intro rfl (And.intro rfl (And.intro rfl (And.intro (And.intro rfl rfl) trivial)))), by show p.n + 1 - (j + 1) < p.n + 1 - j; omega⟩
    · have hgt : j = p.n + 1 := by
        have : ¬ ((j : Nat) : Int) ≤ ((p.n : Nat) : Int) := of_decide_eq_false hgt
        omega
      exact ⟨[0, 1, 2, 3], ⟨i + 1, by omega, fun i' j' h h' h'' => by
          by_cases e : i' = i
          · rw [e]; exact hjall j' (by omega) (by omega)
          · exact hall i' j' (by omega) h' h''⟩, And.intro (And.intro rfl (And.intro rfl (And.intro rfl (And.intro rfl (And.intro (svI (i64_succ i (by omega))) trivial))))) (And.intro rfl (And.intro rfl (And.intro rfl (And.intro (And.intro rfl rfl) trivial)))), by show p.n - (i + 1) < p.n - i; omega⟩
  · have hge : i = p.n := by
      have : ¬ ((i : Nat) : Int) < ((p.n : Nat) : Int) := of_decide_eq_false hge
      omega
    have hMay : May must lines ws := ⟨hm1, hl1, hw1, k6, fun i' j h h' => by rw [← hlnF]; exact hall i' j (by omega) h h'⟩
    have hpp : hMay.par = p := by rw [hp]; rfl
    refine fun ρ S' w' hi => ⟨hi.below, .inr ⟨hMay, _, rfl, ?_⟩⟩
    rw [hpp]
    exact hi.rep 40 (.bx 3 0) (.ptr (parD p)) rfl (by rw [hrep]; rfl)
end Go.Proofs.Ytiaaiihdamkeaaa
