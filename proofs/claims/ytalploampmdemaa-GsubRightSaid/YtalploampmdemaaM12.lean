/- calamuskit.RightSub. -/
import Derived.Test.YtalploampmdemaaM11
set_option maxRecDepth 100000
set_option linter.unusedVariables false
namespace Go.Proofs.Ytalploampmdemaa
open Go Go.Eng Go.RowKit

structure SubU where
  ps : List Pair
  ms : List Many
  ls : List Lig
  bk : List (List Int)
  inn : List (List Int)
  ah : List (List Int)
  rs : List Rec
deriving Inhabited
abbrev suU : SubU → List DV := fun p => [.sl Pair inferInstance 2 paiE p.ps, .sl Many inferInstance 2 manE p.ms, .sl Lig inferInstance 2 ligE p.ls, .sl (List Int) inferInstance 1 setE p.bk, .sl (List Int) inferInstance 1 setE p.inn, .sl (List Int) inferInstance 1 setE p.ah, .sl Rec inferInstance 2 recE p.rs]
def cPa (ps : List Pair) (g : Int) (i : Nat) : Bool := (decide (IntKind.i64.wrap (nth ps i).f ≥ g) || decide (IntKind.i64.wrap (nth ps i).t ≥ g)) || (decide ((i : Int) > 0) && decide ((nth ps i).f ≤ (nth ps (pre i)).f))
def cMa (ms : List Many) (g : Int) (i : Nat) : Bool := ((decide (IntKind.i64.wrap (nth ms i).f ≥ g) || decide (((nth ms i).t.length : Int) = 0)) || !rBe (nth ms i).t g) || (decide ((i : Int) > 0) && decide ((nth ms i).f ≤ (nth ms (pre i)).f))
def cLi (ls : List Lig) (g : Int) (i : Nat) : Bool := ((decide (((nth ls i).p.length : Int) = 0) || !rBe (nth ls i).p g) || decide (IntKind.i64.wrap (nth ls i).t ≥ g)) || (decide ((i : Int) > 0) && decide (nth (nth ls i).p 0 < nth (nth ls (pre i)).p 0))
def cRe (rs : List Rec) (n : Nat) (L : Int) (i : Nat) : Bool := ((decide ((nth rs i).a < 0) || decide ((nth rs i).a ≥ (n : Int))) || decide ((nth rs i).l < 0)) || decide ((nth rs i).l ≥ L)
def c0 (k : Int) (p : SubU) : Bool :=
  ((((!decide (k = 6)) && decide (IntKind.i64.wrap (IntKind.i64.wrap (IntKind.i64.wrap ((p.bk.length : Int) + (p.inn.length : Int)) + (p.ah.length : Int)) + (p.rs.length : Int)) > 0)) || (((!decide (k = 1)) && (!decide (k = 3))) && decide ((p.ps.length : Int) > 0))) || ((!decide (k = 2)) && decide ((p.ms.length : Int) > 0))) || ((!decide (k = 4)) && decide ((p.ls.length : Int) > 0))
def rSub (k : Int) (p : SubU) (g L : Int) : Bool :=
  if c0 k p = true then false
  else if k = 1 ∨ k = 3 then (allN (cPa p.ps g) p.ps.length && decide ((p.ps.length : Int) > 0))
  else if k = 2 then (allN (cMa p.ms g) p.ms.length && decide ((p.ms.length : Int) > 0))
  else if k = 4 then (allN (cLi p.ls g) p.ls.length && decide ((p.ls.length : Int) > 0))
  else if k = 6 then (allN (cRe p.rs p.inn.length L) p.rs.length && (((decide ((p.inn.length : Int) > 0) && rSe p.bk g) && rSe p.inn g) && rSe p.ah g))
  else false
structure LenS (p : SubU) : Prop where
  h1 : p.ps.length ≤ 140737488351232
  h2 : p.ms.length ≤ 140737488351232
  h3 : p.ls.length ≤ 140737488351232
  h4 : p.bk.length ≤ 140737488351232
  h5 : p.inn.length ≤ 140737488351232
  h6 : p.ah.length ≤ 140737488351232
  h7 : p.rs.length ≤ 140737488351232
  hm : ∀ x ∈ p.ms, x.t.length ≤ 140737488351232
  hl : ∀ x ∈ p.ls, x.p.length ≤ 140737488351232
  hb : ∀ x ∈ p.bk, x.length ≤ 140737488351232
  hi : ∀ x ∈ p.inn, x.length ≤ 140737488351232
  ha : ∀ x ∈ p.ah, x.length ≤ 140737488351232
abbrev SSub (p : SubU) : List Chunk := [.rd Pair inferInstance 2 paiE p.ps, .rd Many inferInstance 2 manE p.ms, .rd Lig inferInstance 2 ligE p.ls, .rd (List Int) inferInstance 1 setE p.bk, .rd (List Int) inferInstance 1 setE p.inn, .rd (List Int) inferInstance 1 setE p.ah, .rd Rec inferInstance 2 recE p.rs]
set_option maxHeartbeats 2000000 in
theorem right_sub (k : Int) (p : SubU) (g L : Int) (hl : LenS p) (v1 v2 v3 v4 v5 v6 v7 : Value) (w : World) (r1 : Rd w v1 2 paiE p.ps) (r2 : Rd w v2 2 manE p.ms) (r3 : Rd w v3 2 ligE p.ls) (r4 : Rd w v4 1 setE p.bk) (r5 : Rd w v5 1 setE p.inn) (r6 : Rd w v6 1 setE p.ah) (r7 : Rd w v7 2 recE p.rs) :
    Calls Try.prog 8 #[.int .u16 k, .agg #[v1, v2, v3, v4, v5, v6, v7], .int .i64 g, .int .i64 L] w fun e w' => e = .returned (.bool (rSub k p g L)) ∧ Below w.heap.size w w' := by
  obtain ⟨ps, ms, ls, bk, inn, ah, rs⟩ := p
  obtain ⟨hp1, hm1, hl1, hb1, hi1, ha1, hr1, hlm, hll, hb2, hi2, ha2⟩ := hl
  obtain ⟨X, hX⟩ : ∃ X, rSub k ⟨ps, ms, ls, bk, inn, ah, rs⟩ g L = X := ⟨_, rfl⟩
  rw [hX]
  unfold rSub at hX
  simp only at hX r1 r2 r3 r4 r5 r6 r7 hp1 hm1 hl1 hb1 hi1 ha1 hr1 hlm hll hb2 hi2 ha2
  refine calls_exec (cf := cf) cfok (fn := Try.f8) Try.func8 rfl [.v (.int .u16 k), .agg [.sl 0, .sl 1, .sl 2, .sl 3, .sl 4, .sl 5, .sl 6], .v (.int .i64 g), .v (.int .i64 L)] (SSub ⟨ps, ms, ls, bk, inn, ah, rs⟩) (ρ := fun i => match i with | 0 => v1 | 1 => v2 | 2 => v3 | 3 => v4 | 4 => v5 | 5 => v6 | _ => v7) (· < w.heap.size) rfl rfl rfl (by simp [svOkL, svOk]) (memRd (fun _ h => h) ⟨r1, r2, r3, r4, r5, r6, r7, trivial⟩) ?_
  refine And.intro (fun hc => ?_) (fun hc => ?_)
  · have hc : c0 k ⟨ps, ms, ls, bk, inn, ah, rs⟩ = true := hc
    rw [if_pos hc] at hX
    subst hX
    exact fun ρ S w' hi => ⟨rfl, hi.below⟩
  have hc : c0 k ⟨ps, ms, ls, bk, inn, ah, rs⟩ = false := hc
  rw [if_neg (by rw [hc]; decide)] at hX
  refine And.intro (fun k1 => ?_) (fun k1 => ?_)
  · have k1' : k = 1 := of_decide_eq_true k1
    rw [if_pos (.inl k1')] at hX
    refine And.intro (fun _ => ?_) (fun h => absurd k1' (of_decide_eq_false h))
    refine ⟨{ i : Nat // i ≤ ps.length ∧ ∀ j, j < i → cPa ps g j = false }, fun i => ⟨311, [⟨2, [], .v (.int .i64 g)⟩, ⟨3, [], .v (.int .i64 L)⟩, ⟨5, [], .bx 7 0⟩, ⟨9, [], .v (.int .i64 (i.1 : Nat))⟩], SSub ⟨ps, ms, ls, bk, inn, ah, rs⟩ ++ [.bx 43 [.sl 0, .sl 1, .sl 2, .sl 3, .sl 4, .sl 5, .sl 6]], [], dropL nats 8⟩, fun i => ps.length - i.1, ⟨[0, 1, 2, 3, 4, 5, 6, 7], ⟨0, by omega, fun j h => absurd h (by omega)⟩, ?_⟩, fun i => ?_⟩
    · exact And.intro (And.intro rfl (And.intro rfl (And.intro rfl (And.intro rfl trivial)))) (And.intro rfl (And.intro rfl (And.intro rfl (And.intro rfl (And.intro rfl (And.intro rfl (And.intro rfl (And.intro (And.intro rfl rfl) trivial))))))))
    obtain ⟨i, hi, hall⟩ := i
    refine And.intro (fun hlt => ?_) (fun hge => ?_)
    rotate_left
    · have hge : i = ps.length := by
        have : ¬ ((i : Nat) : Int) < ((ps.length : Nat) : Int) := of_decide_eq_false hge
        omega
      rw [hge] at hall
      rw [allN_true hall, Bool.true_and] at hX
      subst hX
      exact fun ρ S w' hi => ⟨rfl, hi.below⟩
    have hlt : i < ps.length := by
      have : ((i : Nat) : Int) < ((ps.length : Nat) : Int) := of_decide_eq_true hlt
      omega
    have hbd : (0 : Int) ≤ (i : Int) ∧ (i : Int) < (ps.length : Int) := ⟨by omega, by omega⟩
    refine Or.inl ⟨by kernel_rfl, ?_⟩
    refine And.intro hbd ?_
    refine And.intro (fun _ => hbd) ?_
    refine And.intro (fun _ _ => hbd) ?_
    refine And.intro (fun h15 _ => bnd (n := ps.length) hlt (by omega) h15) ?_
    refine And.intro (fun hb => ?_) (fun hb => ?_)
    · have hb : cPa ps g i = true := hb
      rw [allN_false hlt hb, Bool.false_and] at hX
      subst hX
      exact fun ρ S w' hi => ⟨rfl, hi.below⟩
    have hb : cPa ps g i = false := hb
    exact ⟨[0, 1, 2, 3, 4, 5, 6, 7], ⟨i + 1, hlt, fun j hj => by
      by_cases he : j = i
      · rw [he]; exact hb
      · exact hall j (by omega)⟩, And.intro (And.intro rfl (And.intro rfl (And.intro rfl (And.intro (svI (i64_succ i (by omega))) trivial)))) (And.intro rfl (And.intro rfl (And.intro rfl (And.intro rfl (And.intro rfl (And.intro rfl (And.intro rfl (And.intro (And.intro rfl rfl) trivial)))))))), by show ps.length - (i + 1) < ps.length - i; omega⟩
  have k1' : ¬ k = 1 := of_decide_eq_false k1
  refine And.intro (fun k3 => ?_) (fun k3 => ?_)
  · have k3' : k = 3 := of_decide_eq_true k3
    rw [if_pos (.inr k3')] at hX
    refine ⟨{ i : Nat // i ≤ ps.length ∧ ∀ j, j < i → cPa ps g j = false }, fun i => ⟨311, [⟨2, [], .v (.int .i64 g)⟩, ⟨3, [], .v (.int .i64 L)⟩, ⟨5, [], .bx 7 0⟩, ⟨9, [], .v (.int .i64 (i.1 : Nat))⟩], SSub ⟨ps, ms, ls, bk, inn, ah, rs⟩ ++ [.bx 43 [.sl 0, .sl 1, .sl 2, .sl 3, .sl 4, .sl 5, .sl 6]], [], dropL nats 8⟩, fun i => ps.length - i.1, ⟨[0, 1, 2, 3, 4, 5, 6, 7], ⟨0, by omega, fun j h => absurd h (by omega)⟩, ?_⟩, fun i => ?_⟩
    · exact And.intro (And.intro rfl (And.intro rfl (And.intro rfl (And.intro rfl trivial)))) (And.intro rfl (And.intro rfl (And.intro rfl (And.intro rfl (And.intro rfl (And.intro rfl (And.intro rfl (And.intro (And.intro rfl rfl) trivial))))))))
    obtain ⟨i, hi, hall⟩ := i
    refine And.intro (fun hlt => ?_) (fun hge => ?_)
    rotate_left
    · have hge : i = ps.length := by
        have : ¬ ((i : Nat) : Int) < ((ps.length : Nat) : Int) := of_decide_eq_false hge
        omega
      rw [hge] at hall
      rw [allN_true hall, Bool.true_and] at hX
      subst hX
      exact fun ρ S w' hi => ⟨rfl, hi.below⟩
    have hlt : i < ps.length := by
      have : ((i : Nat) : Int) < ((ps.length : Nat) : Int) := of_decide_eq_true hlt
      omega
    have hbd : (0 : Int) ≤ (i : Int) ∧ (i : Int) < (ps.length : Int) := ⟨by omega, by omega⟩
    refine Or.inl ⟨by kernel_rfl, ?_⟩
    refine And.intro hbd ?_
    refine And.intro (fun _ => hbd) ?_
    refine And.intro (fun _ _ => hbd) ?_
    refine And.intro (fun h15 _ => bnd (n := ps.length) hlt (by omega) h15) ?_
    refine And.intro (fun hb => ?_) (fun hb => ?_)
    · have hb : cPa ps g i = true := hb
      rw [allN_false hlt hb, Bool.false_and] at hX
      subst hX
      exact fun ρ S w' hi => ⟨rfl, hi.below⟩
    have hb : cPa ps g i = false := hb
    exact ⟨[0, 1, 2, 3, 4, 5, 6, 7], ⟨i + 1, hlt, fun j hj => by
      by_cases he : j = i
      · rw [he]; exact hb
      · exact hall j (by omega)⟩, And.intro (And.intro rfl (And.intro rfl (And.intro rfl (And.intro (svI (i64_succ i (by omega))) trivial)))) (And.intro rfl (And.intro rfl (And.intro rfl (And.intro rfl (And.intro rfl (And.intro rfl (And.intro rfl (And.intro (And.intro rfl rfl) trivial)))))))), by show ps.length - (i + 1) < ps.length - i; omega⟩
  have k3' : ¬ k = 3 := of_decide_eq_false k3
  rw [if_neg (by omega)] at hX
  refine And.intro (fun k2 => ?_) (fun k2 => ?_)
  · have k2' : k = 2 := of_decide_eq_true k2
    rw [if_pos k2'] at hX
    refine ⟨{ i : Nat // i ≤ ms.length ∧ ∀ j, j < i → cMa ms g j = false }, fun i => ⟨311, [⟨2, [], .v (.int .i64 g)⟩, ⟨3, [], .v (.int .i64 L)⟩, ⟨5, [], .bx 7 0⟩, ⟨10, [], .v (.int .i64 (i.1 : Nat))⟩], SSub ⟨ps, ms, ls, bk, inn, ah, rs⟩ ++ [.bx 43 [.sl 0, .sl 1, .sl 2, .sl 3, .sl 4, .sl 5, .sl 6]], [], dropL nats 8⟩, fun i => ms.length - i.1, ⟨[0, 1, 2, 3, 4, 5, 6, 7], ⟨0, by omega, fun j h => absurd h (by omega)⟩, ?_⟩, fun i => ?_⟩
    · exact And.intro (And.intro rfl (And.intro rfl (And.intro rfl (And.intro rfl trivial)))) (And.intro rfl (And.intro rfl (And.intro rfl (And.intro rfl (And.intro rfl (And.intro rfl (And.intro rfl (And.intro (And.intro rfl rfl) trivial))))))))
    obtain ⟨i, hi, hall⟩ := i
    refine And.intro (fun hlt => ?_) (fun hge => ?_)
    rotate_left
    · have hge : i = ms.length := by
        have : ¬ ((i : Nat) : Int) < ((ms.length : Nat) : Int) := of_decide_eq_false hge
        omega
      rw [hge] at hall
      rw [allN_true hall, Bool.true_and] at hX
      subst hX
      exact fun ρ S w' hi => ⟨rfl, hi.below⟩
    have hlt : i < ms.length := by
      have : ((i : Nat) : Int) < ((ms.length : Nat) : Int) := of_decide_eq_true hlt
      omega
    have hbd : (0 : Int) ≤ (i : Int) ∧ (i : Int) < (ms.length : Int) := ⟨by omega, by omega⟩
    have hml := hlm _ (nth_mem hlt)
    refine Or.inl ⟨by kernel_rfl, ?_⟩
    refine And.intro hbd ?_
    refine And.intro (fun _ => hbd) ?_
    refine And.intro (fun _ => hbd) ?_
    refine ⟨.bool (rBe (nth ms i).t g), fun hg ρ S w hm => below_c (nth ms i).t g hml _ w (hm.cnd 9 rfl rfl (And.intro hg trivial)), ?_⟩
    refine And.intro (fun _ _ => hbd) ?_
    refine And.intro (fun h15 _ => bnd (n := ms.length) hlt (by omega) h15) ?_
    refine And.intro (fun hb => ?_) (fun hb => ?_)
    · have hb : cMa ms g i = true := hb
      rw [allN_false hlt hb, Bool.false_and] at hX
      subst hX
      exact fun ρ S w' hi => ⟨rfl, hi.below⟩
    have hb : cMa ms g i = false := hb
    exact ⟨[0, 1, 2, 3, 4, 5, 6, 7], ⟨i + 1, hlt, fun j hj => by
      by_cases he : j = i
      · rw [he]; exact hb
      · exact hall j (by omega)⟩, And.intro (And.intro rfl (And.intro rfl (And.intro rfl (And.intro (svI (i64_succ i (by omega))) trivial)))) (And.intro rfl (And.intro rfl (And.intro rfl (And.intro rfl (And.intro rfl (And.intro rfl (And.intro rfl (And.intro (And.intro rfl rfl) trivial)))))))), by show ms.length - (i + 1) < ms.length - i; omega⟩
  have k2' : ¬ k = 2 := of_decide_eq_false k2
  rw [if_neg k2'] at hX
  refine And.intro (fun k4 => ?_) (fun k4 => ?_)
  · have k4' : k = 4 := of_decide_eq_true k4
    rw [if_pos k4'] at hX
    refine ⟨{ i : Nat // i ≤ ls.length ∧ ∀ j, j < i → cLi ls g j = false }, fun i => ⟨311, [⟨2, [], .v (.int .i64 g)⟩, ⟨3, [], .v (.int .i64 L)⟩, ⟨5, [], .bx 7 0⟩, ⟨11, [], .v (.int .i64 (i.1 : Nat))⟩], SSub ⟨ps, ms, ls, bk, inn, ah, rs⟩ ++ [.bx 43 [.sl 0, .sl 1, .sl 2, .sl 3, .sl 4, .sl 5, .sl 6]], [], dropL nats 8⟩, fun i => ls.length - i.1, ⟨[0, 1, 2, 3, 4, 5, 6, 7], ⟨0, by omega, fun j h => absurd h (by omega)⟩, ?_⟩, fun i => ?_⟩
    · exact And.intro (And.intro rfl (And.intro rfl (And.intro rfl (And.intro rfl trivial)))) (And.intro rfl (And.intro rfl (And.intro rfl (And.intro rfl (And.intro rfl (And.intro rfl (And.intro rfl (And.intro (And.intro rfl rfl) trivial))))))))
    obtain ⟨i, hi, hall⟩ := i
    refine And.intro (fun hlt => ?_) (fun hge => ?_)
    rotate_left
    · have hge : i = ls.length := by
        have : ¬ ((i : Nat) : Int) < ((ls.length : Nat) : Int) := of_decide_eq_false hge
        omega
      rw [hge] at hall
      rw [allN_true hall, Bool.true_and] at hX
      subst hX
      exact fun ρ S w' hi => ⟨rfl, hi.below⟩
    have hlt : i < ls.length := by
      have : ((i : Nat) : Int) < ((ls.length : Nat) : Int) := of_decide_eq_true hlt
      omega
    have hbd : (0 : Int) ≤ (i : Int) ∧ (i : Int) < (ls.length : Int) := ⟨by omega, by omega⟩
    have hml := hll _ (nth_mem hlt)
    have hp0 : ∀ x y : Bool, ((decide (((nth ls i).p.length : Int) = 0) || x) || y) = false → (0 : Int) ≤ 0 ∧ (0 : Int) < ((nth ls i).p.length : Int) := fun x y h => by
      rw [Bool.or_eq_false_iff, Bool.or_eq_false_iff] at h
      have := of_decide_eq_false h.1.1
      exact ⟨by omega, by omega⟩
    have hq0 : decide ((i : Int) > 0) = true → (0 : Int) ≤ 0 ∧ (0 : Int) < ((nth ls (pre i)).p.length : Int) := fun h => by
      have h : (i : Int) > 0 := of_decide_eq_true h
      have hc := hall (pre i) (by rw [pre_eq (by omega) (by omega)]; omega)
      unfold cLi at hc
      rw [Bool.or_eq_false_iff, Bool.or_eq_false_iff, Bool.or_eq_false_iff] at hc
      have := of_decide_eq_false hc.1.1.1
      exact ⟨by omega, by omega⟩
    refine Or.inl ⟨by kernel_rfl, ?_⟩
    refine And.intro hbd ?_
    refine And.intro (fun _ => hbd) ?_
    refine ⟨.bool (rBe (nth ls i).p g), fun hg ρ S w hm => below_c (nth ls i).p g hml _ w (hm.cnd 9 rfl rfl (And.intro hg trivial)), ?_⟩
    refine And.intro (fun _ => hbd) ?_
    refine And.intro (fun _ _ => hbd) ?_
    refine And.intro (fun _ h => hp0 _ _ h) ?_
    refine And.intro (fun h15 _ => bnd (n := ls.length) hlt (by omega) h15) ?_
    refine And.intro (fun h15 _ => hq0 h15) ?_
    refine And.intro (fun hb => ?_) (fun hb => ?_)
    · have hb : cLi ls g i = true := hb
      rw [allN_false hlt hb, Bool.false_and] at hX
      subst hX
      exact fun ρ S w' hi => ⟨rfl, hi.below⟩
    have hb : cLi ls g i = false := hb
    exact ⟨[0, 1, 2, 3, 4, 5, 6, 7], ⟨i + 1, hlt, fun j hj => by
      by_cases he : j = i
      · rw [he]; exact hb
      · exact hall j (by omega)⟩, And.intro (And.intro rfl (And.intro rfl (And.intro rfl (And.intro (svI (i64_succ i (by omega))) trivial)))) (And.intro rfl (And.intro rfl (And.intro rfl (And.intro rfl (And.intro rfl (And.intro rfl (And.intro rfl (And.intro (And.intro rfl rfl) trivial)))))))), by show ls.length - (i + 1) < ls.length - i; omega⟩
  have k4' : ¬ k = 4 := of_decide_eq_false k4
  rw [if_neg k4'] at hX
  refine And.intro (fun k6 => ?_) (fun k6 => ?_)
  · have k6' : k = 6 := of_decide_eq_true k6
    rw [if_pos k6'] at hX
    refine ⟨{ i : Nat // i ≤ rs.length ∧ ∀ j, j < i → cRe rs inn.length L j = false }, fun i => ⟨311, [⟨2, [], .v (.int .i64 g)⟩, ⟨3, [], .v (.int .i64 L)⟩, ⟨5, [], .bx 7 0⟩, ⟨12, [], .v (.int .i64 (i.1 : Nat))⟩], SSub ⟨ps, ms, ls, bk, inn, ah, rs⟩ ++ [.bx 43 [.sl 0, .sl 1, .sl 2, .sl 3, .sl 4, .sl 5, .sl 6]], [], dropL nats 8⟩, fun i => rs.length - i.1, ⟨[0, 1, 2, 3, 4, 5, 6, 7], ⟨0, by omega, fun j h => absurd h (by omega)⟩, ?_⟩, fun i => ?_⟩
    · exact And.intro (And.intro rfl (And.intro rfl (And.intro rfl (And.intro rfl trivial)))) (And.intro rfl (And.intro rfl (And.intro rfl (And.intro rfl (And.intro rfl (And.intro rfl (And.intro rfl (And.intro (And.intro rfl rfl) trivial))))))))
    obtain ⟨i, hi, hall⟩ := i
    refine And.intro (fun hlt => ?_) (fun hge => ?_)
    rotate_left
    · have hge : i = rs.length := by
        have : ¬ ((i : Nat) : Int) < ((rs.length : Nat) : Int) := of_decide_eq_false hge
        omega
      rw [hge] at hall
      rw [allN_true hall, Bool.true_and] at hX
      subst hX
      refine Or.inl ⟨.bool (rSe bk g), fun hg ρ S w hm => sets_c bk g hb1 hb2 _ w (hm.rd 3 rfl rfl), ?_⟩
      refine Or.inl ⟨.bool (rSe inn g), fun hg ρ S w hm => sets_c inn g hi1 hi2 _ w (hm.rd 4 rfl rfl), ?_⟩
      refine Or.inl ⟨.bool (rSe ah g), fun hg ρ S w hm => sets_c ah g ha1 ha2 _ w (hm.rd 5 rfl rfl), ?_⟩
      exact fun ρ S w' hi => ⟨rfl, hi.below⟩
    have hlt : i < rs.length := by
      have : ((i : Nat) : Int) < ((rs.length : Nat) : Int) := of_decide_eq_true hlt
      omega
    have hbd : (0 : Int) ≤ (i : Int) ∧ (i : Int) < (rs.length : Int) := ⟨by omega, by omega⟩
    refine And.intro hbd ?_
    refine And.intro (fun hb => ?_) (fun hb => ?_)
    · have hb : cRe rs inn.length L i = true := hb
      rw [allN_false hlt hb, Bool.false_and] at hX
      subst hX
      exact fun ρ S w' hi => ⟨rfl, hi.below⟩
    have hb : cRe rs inn.length L i = false := hb
    exact ⟨[0, 1, 2, 3, 4, 5, 6, 7], ⟨i + 1, hlt, fun j hj => by
      by_cases he : j = i
      · rw [he]; exact hb
      · exact hall j (by omega)⟩, And.intro (And.intro rfl (And.intro rfl (And.intro rfl (And.intro (svI (i64_succ i (by omega))) trivial)))) (And.intro rfl (And.intro rfl (And.intro rfl (And.intro rfl (And.intro rfl (And.intro rfl (And.intro rfl (And.intro (And.intro rfl rfl) trivial)))))))), by show rs.length - (i + 1) < rs.length - i; omega⟩
  have k6' : ¬ k = 6 := of_decide_eq_false k6
  rw [if_neg k6'] at hX
  subst hX
  exact fun ρ S w' hi => ⟨rfl, hi.below⟩
end Go.Proofs.Ytalploampmdemaa
