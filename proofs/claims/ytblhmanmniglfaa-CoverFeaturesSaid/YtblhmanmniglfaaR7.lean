/- cover.Classes. -/
import Derived.Test.YtblhmanmniglfaaR6
namespace Go.Proofs.Ytblhmanmniglfaa
open Go Go.Eng Go.RowKit

/-- classes put one behind the other from a glyph on -/
def setC (n : Nat) (cs : List Int) (l : List Int) : Nat → List Int
  | 0 => l
  | i + 1 => (setC n cs l i).set (n + i) (IntKind.u8.wrap (nth cs i))
theorem setC_len (n : Nat) (cs l : List Int) : ∀ i, (setC n cs l i).length = l.length
  | 0 => rfl
  | i + 1 => by show ((setC n cs l i).set _ _).length = _; rw [List.length_set, setC_len]
/-- one class for a range of glyphs -/
def fillC (f : Nat) (t : Int) (l : List Int) : Nat → List Int
  | 0 => l
  | i + 1 => (fillC f t l i).set (f + i) (IntKind.u8.wrap t)
theorem fillC_len (f : Nat) (t : Int) (l : List Int) : ∀ i, (fillC f t l i).length = l.length
  | 0 => rfl
  | i + 1 => by show ((fillC f t l i).set _ _).length = _; rw [List.length_set, fillC_len]
/-- the classes of the first ranges -/
def accC (d : List Int) (l : List Int) : Nat → List Int
  | 0 => l
  | i + 1 => fillC (sF d i).toNat (sT d i) (accC d l i) (sL d i + 1 - sF d i).toNat
theorem accC_len (d l : List Int) : ∀ i, (accC d l i).length = l.length
  | 0 => rfl
  | i + 1 => by show (fillC _ _ (accC d l i) _).length = _; rw [fillC_len, accC_len]
def ok3 (d : List Int) (g : Int) (i : Nat) : Bool := !sB d g i && !decide (sT d i > 4)
def cls1 (d : List Int) (g : Int) : Option (List Int) :=
  if ∀ i, i < (wd d 4).toNat → nth (rowO d 6 (wd d 4).toNat) i ≤ 4 then some (setC (wd d 2).toNat (rowO d 6 (wd d 4).toNat) (List.replicate g.toNat 0) (wd d 4).toNat) else none
def cls2 (d : List Int) (g : Int) (n : Nat) : Option (List Int) := if ∀ i, i < n → ok3 d g i = true then some (accC d (List.replicate g.toNat 0) n) else none
/-- cover.Classes -/
def clsX (b : List Int) (at' g : Int) : Option (List Int) :=
  if g < 0 ∨ g > 65536 ∨ outR b at' 4 = true then none
  else if wd (b.drop at'.toNat) 0 = 1 then (if outR b at' 6 = true ∨ outR b (at' + 6) (2 * wd (b.drop at'.toNat) 4) = true ∨ wd (b.drop at'.toNat) 2 + wd (b.drop at'.toNat) 4 > g then none else cls1 (b.drop at'.toNat) g)
  else if wd (b.drop at'.toNat) 0 = 2 then (if outR b (at' + 4) (6 * wd (b.drop at'.toNat) 2) = true then none else cls2 ((b.drop at'.toNat).drop 4) g (wd (b.drop at'.toNat) 2).toNat)
  else none

noncomputable def rest11 : Code := (findLabel (match (Try.f11.body.getD .skip) with | .seq _ (.scope b) => b | _ => .skip) 0).getD .skip
/-- what Classes hands back -/
def ClsR (b : List Int) (at' g : Int) (w : World) (e : Ending) (w' : World) : Prop :=
  (clsX b at' g = none ∧ e = .returned (.tuple #[.slice none 0 0, .int .i64 50]) ∧ Below w.heap.size w w') ∨
  ∃ l u, clsX b at' g = some l ∧ e = .returned (.tuple #[u, .int .i64 0]) ∧ Below w.heap.size w w' ∧ Fresh w w' u 5 1 bE l
theorem flatB : FlatE bE := ⟨fun n => [.int .u8 n], fun _ => rfl⟩

set_option maxHeartbeats 1000000 in
theorem cls_c (b : List Int) (at' g : Int) (hb : b.length ≤ 1000000) (ha : IntKind.i64.wrap at' = at') (v : Value) (w : World) (hv : Rdr w v b) :
    Calls Try.prog 11 #[v, .int .i64 at', .int .i64 g] w (ClsR b at' g w) := by
  obtain ⟨k, o, rfl⟩ := hv.val
  refine calls_exec (cf := cf) cfok (fn := Try.f11) Try.func11 rfl [.bx 0 0, .v (.int .i64 at'), .v (.int .i64 g)] [.rp [] (rdD b)] (ρ := fun _ => .pointer (some ⟨k, o, none⟩)) (· < w.heap.size) rfl rfl rfl (by simp [svOkL, svOk]) (memRd (fun _ h => h) ⟨hv, trivial⟩) ?_
  refine Or.inr ⟨0, rest11, { _u : Unit // clsX b at' g = none }, fun _ => ⟨130, [], [.rp [] (rdD b)], [], dropL nats 1⟩, fun _ => 0, by kernel_rfl, ?_, fun i => good_of_exec cfok rfl ?_⟩
  rotate_left
  · exact fun ρ S w' hi => .inl ⟨i.2, rfl, hi.below⟩
  refine Or.inl ⟨_, fun _ ρ S w hm => room_w b at' 4 _ _ hb ha rfl rfl _ w (hm.rp 0 rfl rfl), ?_⟩
  have hr0 : ∀ x : Bool, ((decide (g < 0) || decide (g > 65536)) || !roomF b at' 4) = x → ((g < 0 ∨ g > 65536 ∨ outR b at' 4 = true) ↔ x = true) := fun x h => by
    subst h
    unfold roomF
    rw [Bool.or_eq_true, Bool.or_eq_true, Bool.not_not, decide_eq_true_iff, decide_eq_true_iff]
    exact or_assoc.symm
  refine And.intro (fun h => ?_) (fun h => ?_)
  · exact ⟨rfl, [0], ⟨(), by unfold clsX; rw [if_pos ((hr0 true h).2 rfl)]⟩, And.intro trivial ⟨⟨rfl, rfl⟩, trivial⟩⟩
  have h : ¬ (g < 0 ∨ g > 65536 ∨ outR b at' 4 = true) := fun h' => Bool.noConfusion ((hr0 false h).1 h')
  have hc : clsX b at' g = if wd (b.drop at'.toNat) 0 = 1 then (if outR b at' 6 = true ∨ outR b (at' + 6) (2 * wd (b.drop at'.toNat) 4) = true ∨ wd (b.drop at'.toNat) 2 + wd (b.drop at'.toNat) 4 > g then none else cls1 (b.drop at'.toNat) g)
      else if wd (b.drop at'.toNat) 0 = 2 then (if outR b (at' + 4) (6 * wd (b.drop at'.toNat) 2) = true then none else cls2 ((b.drop at'.toNat).drop 4) g (wd (b.drop at'.toNat) 2).toNat)
      else none := by unfold clsX; rw [if_neg h]
  have hg0 : 0 ≤ g := by
    rcases Int.lt_or_le g 0 with h1 | h1
    · exact absurd (.inl h1) h
    · exact h1
  have hg1 : g ≤ 65536 := by
    rcases Int.lt_or_le 65536 g with h1 | h1
    · exact absurd (.inr (.inl h1)) h
    · exact h1
  have h : outR b at' 4 = false := by
    cases e : outR b at' 4 with
    | false => rfl
    | true => exact absurd (.inr (.inr e)) h
  obtain ⟨h0, _, h4⟩ := outR_iff.1 h
  have hw2 : IntKind.i64.wrap (at' + 2) = at' + 2 := i64_id _ (by omega) (by omega)
  have hw4 : IntKind.i64.wrap (at' + 4) = at' + 4 := i64_id _ (by omega) (by omega)
  have hw6 : IntKind.i64.wrap (at' + 6) = at' + 6 := i64_id _ (by omega) (by omega)
  refine ⟨Int, inferInstance, bE, 0, rfl, hg0, by show 1 * _ ≤ _; omega, by omega, rfl, ?_⟩
  have hzl : (List.replicate g.toNat (0 : Int)).length = g.toNat := List.length_replicate
  refine Or.inl ⟨_, fun ρ S w hm => word_w b at' _ 2 hb h0 (by omega) hw2 _ w (hm.rp 0 rfl rfl), ?_⟩
  refine Or.inl ⟨_, fun ρ S w hm => word_w b at' _ 0 hb h0 (by omega) (by simp) _ w (hm.rp 0 rfl rfl), ?_⟩
  have hdd : b.drop (at' + 4).toNat = (b.drop at'.toNat).drop 4 := by rw [List.drop_drop, show (at' + 4).toNat = at'.toNat + 4 from by omega]
  generalize hd : b.drop at'.toNat = d at *
  have hn := wd_range d 2
  have hnw := wd_i64 d 2
  have hm := wd_range d 4
  have hmw := wd_i64 d 4
  have hn2 : IntKind.i64.wrap (2 * IntKind.i64.wrap (wd d 4)) = 2 * wd d 4 := by rw [hmw]; exact i64_id _ (by omega) (by omega)
  have hn6 : IntKind.i64.wrap (6 * IntKind.i64.wrap (wd d 2)) = 6 * wd d 2 := by rw [hnw]; exact i64_id _ (by omega) (by omega)
  refine And.intro (fun h1 => ?_) (fun h1 => ?_)
  · have h1 : wd d 0 = 1 := of_decide_eq_true h1
    rw [if_pos h1] at hc
    have r6 : ∀ x : Bool, (!roomF b at' 6) = x → outR b at' 6 = x := fun x h => by unfold roomF at h; rw [Bool.not_not] at h; exact h
    refine Or.inl ⟨_, fun ρ S w hm => room_w b at' 6 _ _ hb ha rfl rfl _ w (hm.rp 0 rfl rfl), ?_⟩
    refine Or.inl ⟨_, fun g4 ρ S w hm => by
      have := word_w b at' _ 4 hb h0 (by have := (outR_iff.1 (r6 false g4)).2.2; omega) hw4 _ w (hm.rp 0 rfl rfl)
      rw [hd] at this
      exact this, ?_⟩
    refine Or.inl ⟨_, fun g4 ρ S w hm => room_w b (at' + 6) (2 * wd d 4) _ _ hb hw6 hw6 hn2 _ w (hm.rp 0 rfl rfl), ?_⟩
    refine Or.inl ⟨_, fun g1 ρ S w hm => by
      have g1 : (!roomF b at' 6 || !roomF b (at' + 6) (2 * wd d 4)) = false := g1
      rw [Bool.or_eq_false_iff] at g1
      have := word_w b at' _ 4 hb h0 (by have := (outR_iff.1 (r6 false g1.1)).2.2; omega) hw4 _ w (hm.rp 0 rfl rfl)
      rw [hd] at this
      exact this, ?_⟩
    have hnm : IntKind.i64.wrap (IntKind.i64.wrap (wd d 2) + IntKind.i64.wrap (wd d 4)) = wd d 2 + wd d 4 := by rw [hnw, hmw]; exact i64_id _ (by omega) (by omega)
    have hr1 : ∀ x : Bool, ((!roomF b at' 6 || !roomF b (at' + 6) (2 * wd d 4)) || decide (IntKind.i64.wrap (IntKind.i64.wrap (wd d 2) + IntKind.i64.wrap (wd d 4)) > g)) = x → ((outR b at' 6 = true ∨ outR b (at' + 6) (2 * wd d 4) = true ∨ wd d 2 + wd d 4 > g) ↔ x = true) := fun x h => by
      subst h
      unfold roomF
      rw [hnm, Bool.or_eq_true, Bool.or_eq_true, Bool.not_not, Bool.not_not, decide_eq_true_iff]
      exact or_assoc.symm
    refine And.intro (fun h => ?_) (fun h => ?_)
    · exact ⟨rfl, [0], ⟨(), by rw [hc, if_pos ((hr1 true h).2 rfl)]⟩, And.intro trivial ⟨⟨rfl, rfl⟩, trivial⟩⟩
    have h : ¬ (outR b at' 6 = true ∨ outR b (at' + 6) (2 * wd d 4) = true ∨ wd d 2 + wd d 4 > g) := fun h' => Bool.noConfusion ((hr1 false h).1 h')
    rw [if_neg h] at hc
    have o6 : outR b at' 6 = false := by
      cases e : outR b at' 6 with
      | false => rfl
      | true => exact absurd (.inl e) h
    have o7 : outR b (at' + 6) (2 * wd d 4) = false := by
      cases e : outR b (at' + 6) (2 * wd d 4) with
      | false => rfl
      | true => exact absurd (.inr (.inl e)) h
    have hsum : wd d 2 + wd d 4 ≤ g := by
      rcases Int.lt_or_le g (wd d 2 + wd d 4) with h1 | h1
      · exact absurd (.inr (.inr h1)) h
      · exact h1
    have h6 := (outR_iff.1 o6).2.2
    refine Or.inl ⟨_, fun ρ S w hm => by
      have := word_w b at' _ 4 hb h0 (by omega) hw4 _ w (hm.rp 0 rfl rfl)
      rw [hd] at this
      exact this, ?_⟩
    have hmm : IntKind.i64.wrap (wd d 4) = ((wd d 4).toNat : Int) := by rw [hmw]; omega
    refine Or.inr (lcall_fresh (rowO d 6 (wd d 4).toNat) (fun ρ S w hm' => by
      have := words_w b at' _ _ 6 (wd d 4).toNat hb h0 hw6 hmm (by rw [Int.toNat_of_nonneg hm.1]; exact o7) _ w (hm'.rp 0 rfl rfl)
      rw [hd] at this
      exact this) ?_)
    unfold cls1 at hc
    have hlen := rowO_len d 6 (wd d 4).toNat
    have hb1 : ∀ i, i < (wd d 4).toNat → nth (rowO d 6 (wd d 4).toNat) i > 4 → clsX b at' g = none := fun i hi he => by
      rw [hc, if_neg (fun hall => by have := hall i hi; omega)]
    generalize hM : (wd d 4).toNat = M at *
    generalize rowO d 6 M = l at *
    refine ⟨{ i : Nat // i ≤ l.length ∧ ∀ j, j < i → nth l j ≤ 4 }, fun i => ⟨130, [⟨8, [], .bx 1 0⟩, ⟨9, [], .v (.int .i64 (wd d 2))⟩, ⟨74, [], .sl 3⟩, ⟨75, [], .v (.int .i64 l.length)⟩, ⟨76, [], .v (.int .i64 (i.1 : Int))⟩], [.rp [] (rdD b), .bx 25 [.sl 2], .own 5 Int inferInstance 1 bE (setC (wd d 2).toNat l (List.replicate g.toNat 0) i.1), .own 26 Int inferInstance 1 hE l], [], dropL nats 4⟩,
      fun i => l.length - i.1, ⟨[0, 1, 2, 3], ⟨0, Nat.zero_le _, fun j hj => absurd hj (Nat.not_lt_zero _)⟩, ?_⟩, fun i => ?_⟩
    · exact And.intro (And.intro rfl (And.intro (svI hnw) (And.intro rfl (And.intro rfl (And.intro rfl trivial))))) (And.intro ⟨rfl, rfl⟩ (And.intro (And.intro rfl rfl) (And.intro rfl (And.intro rfl trivial))))
    obtain ⟨i, hi, hall⟩ := i
    have hsl : (setC (wd d 2).toNat l (List.replicate g.toNat 0) i).length = g.toNat := by rw [setC_len, hzl]
    refine And.intro (fun hlt => ?_) (fun hge => ?_)
    · have hlt : i < l.length := by have : (i : Int) < (l.length : Int) := of_decide_eq_true hlt
                                    omega
      refine And.intro (show (0 : Int) ≤ (i : Int) ∧ (i : Int) < (l.length : Int) from ⟨by omega, by omega⟩) ?_
      refine And.intro (fun h => ?_) (fun h => ?_)
      · have h : nth l (i : Int).toNat > 4 := of_decide_eq_true h
        exact ⟨rfl, [0], ⟨(), hb1 i (by omega) h⟩, And.intro trivial ⟨⟨rfl, rfl⟩, trivial⟩⟩
      have h : ¬ nth l (i : Int).toNat > 4 := of_decide_eq_false h
      have hx : IntKind.i64.wrap (wd d 2 + (i : Int)) = wd d 2 + (i : Int) := i64_id _ (by omega) (by omega)
      refine And.intro (show (0 : Int) ≤ IntKind.i64.wrap (wd d 2 + (i : Int)) ∧ IntKind.i64.wrap (wd d 2 + (i : Int)) < ((setC (wd d 2).toNat l (List.replicate g.toNat 0) i).length : Int) from by rw [hx, hsl]; omega) ?_
      refine ⟨_, rfl, rfl, ?_⟩
      have hset : (setC (wd d 2).toNat l (List.replicate g.toNat 0) i).set (IntKind.i64.wrap (wd d 2 + (i : Int))).toNat (IntKind.u8.wrap (nth l (i : Int).toNat)) = setC (wd d 2).toNat l (List.replicate g.toNat 0) (i + 1) := by
        rw [hx, show (wd d 2 + (i : Int)).toNat = (wd d 2).toNat + i from by omega]; rfl
      exact ⟨[0, 1, 2, 3], ⟨i + 1, hlt, fun j hj => by
          by_cases e : j = i
          · subst e; show nth l j ≤ 4; have : ¬ nth l j > 4 := h; omega
          · exact hall j (by omega)⟩, And.intro (And.intro rfl (And.intro rfl (And.intro rfl (And.intro rfl (And.intro (svI (i64_succ i (by omega))) trivial))))) (And.intro ⟨rfl, rfl⟩ (And.intro (And.intro rfl rfl) (And.intro (congrArg (Chunk.own 5 Int inferInstance 1 bE) hset) (And.intro rfl trivial)))), by show _ - (i + 1) < _ - i; omega⟩
    · have hge : i = l.length := by have : ¬ (i : Int) < (l.length : Int) := of_decide_eq_false hge
                                    omega
      have hiM : i = M := by omega
      rw [hiM] at hall
      rw [if_pos hall, ← hiM] at hc
      exact fun ρ S w' hi => .inr ⟨_, _, hc, rfl, hi.below, hi.fresh 2 flatB rfl rfl⟩
  have h1 : ¬ wd d 0 = 1 := of_decide_eq_false h1
  rw [if_neg h1] at hc
  refine And.intro (fun h2 => ?_) (fun h2 => ?_)
  rotate_left
  · have h2 : ¬ wd d 0 = 2 := of_decide_eq_false h2
    rw [if_neg h2] at hc
    exact ⟨rfl, [0], ⟨(), hc⟩, And.intro trivial ⟨⟨rfl, rfl⟩, trivial⟩⟩
  have h2 : wd d 0 = 2 := of_decide_eq_true h2
  rw [if_pos h2] at hc
  refine Or.inl ⟨_, fun ρ S w hm => room_w b (at' + 4) (6 * wd d 2) _ _ hb hw4 hw4 hn6 _ w (hm.rp 0 rfl rfl), ?_⟩
  refine And.intro (fun h => ?_) (fun h => ?_)
  · have h : (!roomF b (at' + 4) (6 * wd d 2)) = true := h
    unfold roomF at h
    rw [Bool.not_not] at h
    exact ⟨rfl, [0], ⟨(), by rw [hc, if_pos h]⟩, And.intro trivial ⟨⟨rfl, rfl⟩, trivial⟩⟩
  have h : (!roomF b (at' + 4) (6 * wd d 2)) = false := h
  unfold roomF at h
  rw [Bool.not_not] at h
  rw [if_neg (by rw [h]; decide)] at hc
  have hnn : IntKind.i64.wrap (wd d 2) = ((wd d 2).toNat : Int) := by rw [hnw]; omega
  obtain ⟨h60, _, h64⟩ := outR_iff.1 h
  have hN : (wd d 2).toNat ≤ 65535 := by omega
  have h64' : at' + 4 + 6 * ((wd d 2).toNat : Int) ≤ b.length := by omega
  unfold cls2 at hc
  generalize hNN : (wd d 2).toNat = N at *
  refine Or.inr (lcall_fnRps 38 [[.v (.int .i64 (IntKind.i64.wrap (wd d 2)))], [.ptr (rdD b)], [.v (.int .i64 (IntKind.i64.wrap (at' + 4)))], [.v (.int .i64 g)]] (fun ρ S w hm => spans_c b _ _ g _ w S hm.lt (hm.rpS 0 rfl rfl)) ?_)
  have hG := sG_le (d.drop 4) g N
  have hNb : sN (d.drop 4) g N ≤ N := by unfold sN; split <;> omega
  refine ⟨sN (d.drop 4) g N, fun j => [.v (sV (d.drop 4) g j)], 2, [⟨8, [], .bx 1 0⟩], { j : Nat // j ≤ sN (d.drop 4) g N ∧ ∀ i, i < j → ok3 (d.drop 4) g i = true }, fun j => [.rp [] (rdD b), .bx 25 [.sl 2], .own 5 Int inferInstance 1 bE (accC (d.drop 4) (List.replicate g.toNat 0) j.1)], fun j => j.1,
    fun ρ S w hm => ?_, fun j => rfl, rfl, rfl, fun j => rfl, fun j => rfl, rfl, rfl, ⟨[0, 1, 2], ⟨0, Nat.zero_le _, fun i hi => absurd hi (Nat.not_lt_zero _)⟩, rfl, ?_⟩, ?_, ?_⟩
  · have := spans_w b (at' + 4) g _ _ N hb (by omega) h64' hw4 hnn _ _ _ _ w S hm.lt (hm.rpS 3 rfl rfl) (hm.rpS 4 rfl rfl) (hm.rpS 5 rfl rfl) (hm.rpS 6 rfl rfl)
    rw [hdd] at this
    exact this
  · exact And.intro (And.intro rfl trivial) (And.intro ⟨rfl, rfl⟩ (And.intro (And.intro rfl rfl) (And.intro rfl trivial)))
  · rintro ⟨j, hj, hall⟩ hlt
    have hlt : j < sN (d.drop 4) g N := hlt
    show putPsK _ [.v (sV (d.drop 4) g j)] _ _ _
    have hnone : ok3 (d.drop 4) g j = false → clsX b at' g = none := fun he => by rw [hc, if_neg (fun ha => by rw [ha j (by omega)] at he; cases he)]
    cases hbd : sB (d.drop 4) g j with
    | true =>
      have e : sV (d.drop 4) g j = .agg #[.int .i64 (-1), .int .i64 0, .int .i64 0] := by unfold sV; rw [hbd, if_pos rfl]
      rw [e]
      refine And.intro (fun _ => ?_) (fun h => by cases h)
      exact ⟨rfl, [0], ⟨(), hnone (by unfold ok3; rw [hbd]; rfl)⟩, And.intro trivial ⟨⟨rfl, rfl⟩, trivial⟩⟩
    | false =>
      have e : sV (d.drop 4) g j = .agg #[.int .i64 (sF (d.drop 4) j), .int .i64 (sL (d.drop 4) j), .int .i64 (sT (d.drop 4) j)] := by unfold sV; rw [hbd, if_neg (by decide)]
      rw [e]
      have hF := wd_range (d.drop 4) (6 * j)
      have hL := wd_range (d.drop 4) (6 * j + 2)
      have hal : (accC (d.drop 4) (List.replicate g.toNat 0) j).length = g.toNat := by rw [accC_len, hzl]
      have hx : ∀ x : Bool, (decide (sF (d.drop 4) j < 0) || decide (sT (d.drop 4) j > 4)) = x → ok3 (d.drop 4) g j = !x := fun x hx => by
        subst hx
        unfold ok3
        rw [hbd, decide_eq_false (by unfold sF; omega : ¬ sF (d.drop 4) j < 0)]
        simp
      refine And.intro (fun h => ?_) (fun h => ?_)
      · exact ⟨rfl, [0], ⟨(), hnone (hx true h)⟩, And.intro trivial ⟨⟨rfl, rfl⟩, trivial⟩⟩
      have hok : ok3 (d.drop 4) g j = true := hx false h
      have hacc : accC (d.drop 4) (List.replicate g.toNat 0) (j + 1) = fillC (sF (d.drop 4) j).toNat (sT (d.drop 4) j) (accC (d.drop 4) (List.replicate g.toNat 0) j) (sL (d.drop 4) j + 1 - sF (d.drop 4) j).toNat := rfl
      have hFL : sF (d.drop 4) j ≤ sL (d.drop 4) j ∧ sL (d.drop 4) j < g := by
        unfold sB at hbd
        rw [Bool.or_eq_false_iff, Bool.or_eq_false_iff, decide_eq_false_iff_not, decide_eq_false_iff_not, decide_eq_false_iff_not] at hbd
        omega
      have hF : 0 ≤ sF (d.drop 4) j ∧ sF (d.drop 4) j ≤ 65535 := hF
      have hL : 0 ≤ sL (d.drop 4) j ∧ sL (d.drop 4) j ≤ 65535 := hL
      generalize hfF : sF (d.drop 4) j = F at *
      generalize hfL : sL (d.drop 4) j = L at *
      generalize sT (d.drop 4) j = T at *
      generalize hac : accC (d.drop 4) (List.replicate g.toNat 0) j = ac at *
      refine ⟨{ t : Nat // F + t ≤ L + 1 }, fun t => ⟨130, [⟨8, [], .bx 1 0⟩, ⟨12, [], .bx 3 0⟩, ⟨13, [], .v (.int .i64 (F + (t.1 : Int)))⟩], [.rp [] (rdD b), .bx 25 [.sl 2], .own 5 Int inferInstance 1 bE (fillC F.toNat T ac t.1), .bx 58 [.v (.int .i64 F), .v (.int .i64 L), .v (.int .i64 T)]], [], dropL nats 4⟩,
        fun t => (L + 1 - F).toNat - t.1, ⟨[0, 1, 2, 3], ⟨0, by omega⟩, ?_⟩, fun t => ?_⟩
      · exact And.intro (And.intro rfl (And.intro rfl (And.intro (svI (by simp)) trivial))) (And.intro ⟨rfl, rfl⟩ (And.intro (And.intro rfl rfl) (And.intro rfl (And.intro (And.intro rfl rfl) trivial))))
      obtain ⟨t, ht⟩ := t
      have ht : F + (t : Int) ≤ L + 1 := ht
      refine And.intro (fun hlt => ?_) (fun hge => ?_)
      · have hlt : F + (t : Int) ≤ L := of_decide_eq_true hlt
        have hnx : IntKind.i64.wrap (F + (t : Int) + 1) = F + ((t + 1 : Nat) : Int) := by rw [i64_id _ (by omega) (by omega)]; omega
        refine And.intro (show (0 : Int) ≤ F + (t : Int) ∧ F + (t : Int) < ((fillC F.toNat T ac t).length : Int) from by rw [fillC_len, hal]; omega) ?_
        refine ⟨_, rfl, rfl, ?_⟩
        have hset : (fillC F.toNat T ac t).set (F + (t : Int)).toNat (IntKind.u8.wrap T) = fillC F.toNat T ac (t + 1) := by
          rw [show (F + (t : Int)).toNat = F.toNat + t from by omega]; rfl
        exact ⟨[0, 1, 2, 3], ⟨t + 1, by show F + ((t + 1 : Nat) : Int) ≤ L + 1; omega⟩, And.intro (And.intro rfl (And.intro rfl (And.intro (svI hnx) trivial))) (And.intro ⟨rfl, rfl⟩ (And.intro (And.intro rfl rfl) (And.intro (congrArg (Chunk.own 5 Int inferInstance 1 bE) hset) (And.intro (And.intro rfl rfl) trivial)))), by show _ - (t + 1) < _ - t; omega⟩
      · have hge : ¬ F + (t : Int) ≤ L := of_decide_eq_false hge
        have hte : t = (L + 1 - F).toNat := by omega
        exact ⟨[0, 1, 2], ⟨j + 1, hlt, fun i hi => by
          by_cases e : i = j
          · subst e; exact hok
          · exact hall i (by omega)⟩, rfl, And.intro (And.intro rfl trivial) (And.intro ⟨rfl, rfl⟩ (And.intro (And.intro rfl rfl) (And.intro (show Chunk.own _ _ _ _ _ (fillC F.toNat T ac t) = Chunk.own _ _ _ _ _ (accC (d.drop 4) (List.replicate g.toNat 0) (j + 1)) by rw [hacc, hte]) trivial)))⟩
  · rintro ⟨j, hj, hall⟩ he
    have he : j = sN (d.drop 4) g N := he
    have hjN : j = N := by
      rcases Nat.lt_or_ge (sG (d.drop 4) g N) N with h3 | h3
      · have : sN (d.drop 4) g N = sG (d.drop 4) g N + 1 := by unfold sN; rw [if_pos h3]
        have h4 := hall (sG (d.drop 4) g N) (by omega)
        unfold ok3 at h4
        rw [sG_bad _ _ _ h3] at h4
        cases h4
      · rw [he]; unfold sN; rw [if_neg (by omega)]
    rw [hjN] at hall
    rw [if_pos hall, ← hjN] at hc
    exact fun ρ S w' hi => .inr ⟨_, _, hc, rfl, hi.below, hi.fresh 2 flatB rfl rfl⟩
end Go.Proofs.Ytblhmanmniglfaa
