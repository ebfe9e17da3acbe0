/- calamuskit.RightPos. -/
import Derived.Test.YtjflgkadagkllaaGreatN8
set_option maxRecDepth 100000
set_option linter.unusedVariables false
namespace Go.Proofs.YtjflgkadagkllaaGreat
open Go Go.Eng Go.RowKit
structure PosU where
 kerns : List Kern
 marks : List Mark
 bases : List Base
deriving Inhabited
abbrev puE : PosU -> List DV := fun p => [.sl Kern inferInstance 3 keE p.kerns, .sl Mark inferInstance 4 maE p.marks, .sl Base inferInstance 2 baE p.bases]
def allN (c : Nat -> Bool) (n : Nat) : Bool := (List.range n).all (fun i => !c i)
theorem allN_true {c : Nat -> Bool} {n : Nat} (h : ∀ j, j < n -> c j = false) : allN c n = true := by
 unfold allN
 rw [List.all_eq_true]
 intro x hx
 rw [h x (List.mem_range.1 hx)]; rfl
theorem allN_false {c : Nat -> Bool} {n i : Nat} (hi : i < n) (h : c i = true) : allN c n = false := by
 unfold allN
 rw [List.all_eq_false]
 exact ⟨i, List.mem_range.2 hi, by rw [h]; simp⟩
theorem allN_of {c : Nat -> Bool} {n : Nat} (h : allN c n = true) (j : Nat) (hj : j < n) : c j = false := by
 cases hc : c j with
 | false => rfl
 | true => rw [allN_false hj hc] at h; cases h
def pre (i : Nat) : Nat := (IntKind.i64.wrap ((i : Int) - 1)).toNat
theorem pre_eq {i : Nat} (h : 0 < i) (h2 : i <= 1000000000000000) : pre i = i - 1 := by
 unfold pre
 rw [i64_id _ (by omega) (by omega)]; omega
def cK (ks : List Kern) (g : Int) (i : Nat) : Bool :=
 (decide (IntKind.i64.wrap (nth ks i).a >= g) || decide (IntKind.i64.wrap (nth ks i).b >= g)) || (decide ((i : Int) > 0) && (decide ((nth ks i).a < (nth ks (pre i)).a) || (decide ((nth ks i).a = (nth ks (pre i)).a) && decide ((nth ks i).b <= (nth ks (pre i)).b))))
def cM (ms : List Mark) (g n : Int) (i : Nat) : Bool :=
 (decide (IntKind.i64.wrap (nth ms i).g >= g) || decide (IntKind.i64.wrap (nth ms i).c >= n)) || (decide ((i : Int) > 0) && decide ((nth ms i).g <= (nth ms (pre i)).g))
def cB (bs : List Base) (g n : Int) (i : Nat) : Bool :=
 (decide (IntKind.i64.wrap (nth bs i).g >= g) || !decide (((nth bs i).an.length : Int) = n)) || (decide ((i : Int) > 0) && decide ((nth bs i).g <= (nth bs (pre i)).g))
def cA (an : List Anchor) (k : Nat) : Bool := (!(nth an k).has) && ((!decide ((nth an k).x = 0)) || !decide ((nth an k).y = 0))
def an0 (bs : List Base) : Nat := (nth bs 0).an.length
def rPos (k : Int) (p : PosU) (g : Int) : Bool :=
 if k = 2 then (allN (cK p.kerns g) p.kerns.length && (decide ((p.kerns.length : Int) > 0) && decide ((p.marks.length : Int) + (p.bases.length : Int) = 0)))
 else if ((((!decide (k = 4)) && (!decide (k = 6))) || decide ((p.kerns.length : Int) > 0)) || decide ((p.marks.length : Int) = 0)) || decide ((p.bases.length : Int) = 0) then false
 else allN (cM p.marks g (an0 p.bases : Int)) p.marks.length && (allN (fun i => cB p.bases g (an0 p.bases : Int) i || !allN (cA (nth p.bases i).an) (an0 p.bases)) p.bases.length && decide ((an0 p.bases : Int) > 0))
theorem bnd {i n : Nat} (hlt : i < n) (hl : n <= 1000000000000000) (h : decide ((i : Int) > 0) = true) : 0 <= IntKind.i64.wrap ((i : Int) - 1) /\ IntKind.i64.wrap ((i : Int) - 1) < (n : Int) := by
 have h : (i : Int) > 0 := of_decide_eq_true h
 rw [i64_id _ (by omega) (by omega)]; omega
abbrev SPos (ks : List Kern) (ms : List Mark) (bs : List Base) : List Chunk := [.rd Kern inferInstance 3 keE ks, .rd Mark inferInstance 4 maE ms, .rd Base inferInstance 2 baE bs]
set_option maxHeartbeats 1000000 in
theorem right_pos (k : Int) (p : PosU) (g : Int) (hl : p.kerns.length <= 140737488351232 /\ p.marks.length <= 140737488351232 /\ p.bases.length <= 140737488351232 /\ ∀ x ∈ p.bases, x.an.length <= 140737488351232) (v1 v2 v3 : Value) (w : World) (r1 : Rd w v1 3 keE p.kerns) (r2 : Rd w v2 4 maE p.marks) (r3 : Rd w v3 2 baE p.bases) :
 Calls Tryz.prog 31 #[.int .u16 k, .agg #[v1, v2, v3], .int .i64 g] w fun e w' => e = .returned (.bool (rPos k p g)) /\ Below w.heap.size w w' := by
 obtain ⟨ks, ms, bs⟩ := p
 obtain ⟨X, hX⟩ : ∃ X, rPos k ⟨ks, ms, bs⟩ g = X := ⟨_, rfl⟩
 rw [hX]
 unfold rPos at hX
 simp only at hX r1 r2 r3 hl
 obtain ⟨hl1, hl2, hl3, hl4⟩ := hl
 refine calls_exec (cf := cf) cfok (fn := Tryz.f31) Tryz.func31 rfl [.v (.int .u16 k), .agg [.sl 0, .sl 1, .sl 2], .v (.int .i64 g)] (SPos ks ms bs) (ρ := fun i => match i with | 0 => v1 | 1 => v2 | _ => v3) (· < w.heap.size) rfl rfl rfl (by simp [svOkL, svOk]) (memRd (fun _ h => h) ⟨r1, r2, r3, trivial⟩) ?_
 refine aI (fun h2 => ?_) (fun h2 => ?_)
 · have h2 : k = 2 := of_decide_eq_true h2
   rw [if_pos h2] at hX
   refine ⟨{ i : Nat // i <= ks.length /\ ∀ j, j < i -> cK ks g j = false }, fun i => ⟨247, [⟨2, [], .v (.int .i64 g)⟩, ⟨4, [], .bx 3 0⟩, ⟨7, [], .v (.int .i64 (i.1 : Nat))⟩], SPos ks ms bs ++ [.bx 42 [.sl 0, .sl 1, .sl 2]], [], dropL nats 4⟩, fun i => ks.length - i.1, ⟨[0, 1, 2, 3], ⟨0, by omega, fun j h => absurd h (by omega)⟩, ?_⟩, fun i => ?_⟩
   · exact aI (aI rfl (aI rfl (aI rfl trivial))) (aI rfl (aI rfl (aI rfl (aI (aI rfl rfl) trivial))))
   obtain ⟨i, hi, hall⟩ := i
   refine aI (fun hlt => ?_) (fun hge => ?_)
   rotate_left
   · have hge : i = ks.length := by
      have : ¬ ((i : Nat) : Int) < ((ks.length : Nat) : Int) := of_decide_eq_false hge
      omega
     rw [hge] at hall
     rw [allN_true hall, Bool.true_and] at hX
     subst hX
     by_cases hz : (ks.length : Int) > 0
     · exact fun ρ S w' hi => ⟨by rw [decide_eq_true hz]; exact congrArg (fun z : Int => Ending.returned (Value.bool (true && decide (z = 0)))) (i64_id _ (by omega) (by omega)), hi.below⟩
     · exact fun ρ S w' hi => ⟨by rw [decide_eq_false hz]; rfl, hi.below⟩
   have hlt : i < ks.length := by
    have : ((i : Nat) : Int) < ((ks.length : Nat) : Int) := of_decide_eq_true hlt
    omega
   refine aI (show (0 : Int) <= (i : Int) /\ (i : Int) < (ks.length : Int) from ⟨by omega, by omega⟩) ?_
   refine Or.inl ⟨by kernel_rfl, ?_⟩
   refine aI (fun h15 _ => bnd hlt (by omega) h15) ?_
   refine aI (fun _ h15 _ => bnd hlt (by omega) h15) ?_
   refine aI (fun _ _ h15 _ => bnd hlt (by omega) h15) ?_
   refine aI (fun hb => ?_) (fun hb => ?_)
   · have hb : cK ks g i = true := hb
     rw [allN_false hlt hb, Bool.false_and] at hX
     subst hX
     exact fun ρ S w' hi => ⟨rfl, hi.below⟩
   have hb : cK ks g i = false := hb
   exact ⟨[0, 1, 2, 3], ⟨i + 1, hlt, fun j hj => by
    by_cases he : j = i
    · rw [he]; exact hb
    · exact hall j (by omega)⟩, aI (aI rfl (aI rfl (aI (svI (i64_succ i (by omega))) trivial))) (aI rfl (aI rfl (aI rfl (aI (aI rfl rfl) trivial)))), by show ks.length - (i + 1) < ks.length - i; omega⟩
 have h2 : ¬ k = 2 := of_decide_eq_false h2
 rw [if_neg h2] at hX
 refine aI (fun hc => ?_) (fun hc => ?_)
 · have hc : (((((!decide (k = 4)) && (!decide (k = 6))) || decide ((ks.length : Int) > 0)) || decide ((ms.length : Int) = 0)) || decide ((bs.length : Int) = 0)) = true := hc
   rw [if_pos hc] at hX
   subst hX
   exact fun ρ S w' hi => ⟨rfl, hi.below⟩
 have hc : (((((!decide (k = 4)) && (!decide (k = 6))) || decide ((ks.length : Int) > 0)) || decide ((ms.length : Int) = 0)) || decide ((bs.length : Int) = 0)) = false := hc
 rw [if_neg (by rw [hc]; decide)] at hX
 have hb0 : 0 < bs.length := by
  rw [Bool.or_eq_false_iff] at hc
  have := of_decide_eq_false hc.2
  omega
 refine aI ⟨by decide, by show (0 : Int) < (bs.length : Int); omega⟩ ?_
 have hn : an0 bs <= 140737488351232 := by
  refine hl4 (nth bs 0) ?_
  unfold nth
  rw [List.getD_eq_getElem?_getD, List.getElem?_eq_getElem hb0]
  exact List.getElem_mem hb0
 refine ⟨{ i : Nat // i <= ms.length /\ ∀ j, j < i -> cM ms g (an0 bs : Int) j = false }, fun i => ⟨247, [⟨2, [], .v (.int .i64 g)⟩, ⟨4, [], .bx 3 0⟩, ⟨9, [], .v (.int .i64 (an0 bs : Nat))⟩, ⟨10, [], .v (.int .i64 (i.1 : Nat))⟩], SPos ks ms bs ++ [.bx 42 [.sl 0, .sl 1, .sl 2]], [], dropL nats 4⟩, fun i => ms.length - i.1, ⟨[0, 1, 2, 3], ⟨0, by omega, fun j h => absurd h (by omega)⟩, ?_⟩, fun i => ?_⟩
 · exact aI (aI rfl (aI rfl (aI rfl (aI rfl trivial)))) (aI rfl (aI rfl (aI rfl (aI (aI rfl rfl) trivial))))
 obtain ⟨i, hi, hall⟩ := i
 refine aI (fun hlt => ?_) (fun hge => ?_)
 · have hlt : i < ms.length := by
    have : ((i : Nat) : Int) < ((ms.length : Nat) : Int) := of_decide_eq_true hlt
    omega
   refine Or.inl ⟨by kernel_rfl, ?_⟩
   refine aI (show (0 : Int) <= (i : Int) /\ (i : Int) < (ms.length : Int) from ⟨by omega, by omega⟩) ?_
   refine aI (fun _ => (show (0 : Int) <= (i : Int) /\ (i : Int) < (ms.length : Int) from ⟨by omega, by omega⟩)) ?_
   refine aI (fun _ _ => (show (0 : Int) <= (i : Int) /\ (i : Int) < (ms.length : Int) from ⟨by omega, by omega⟩)) ?_
   refine aI (fun h15 _ => bnd hlt (by omega) h15) ?_
   refine aI (fun hb => ?_) (fun hb => ?_)
   · have hb : cM ms g (an0 bs : Int) i = true := hb
     rw [allN_false hlt hb, Bool.false_and] at hX
     subst hX
     exact fun ρ S w' hi => ⟨rfl, hi.below⟩
   have hb : cM ms g (an0 bs : Int) i = false := hb
   exact ⟨[0, 1, 2, 3], ⟨i + 1, hlt, fun j hj => by
    by_cases he : j = i
    · rw [he]; exact hb
    · exact hall j (by omega)⟩, aI (aI rfl (aI rfl (aI rfl (aI (svI (i64_succ i (by omega))) trivial)))) (aI rfl (aI rfl (aI rfl (aI (aI rfl rfl) trivial)))), by show ms.length - (i + 1) < ms.length - i; omega⟩
 have hge : i = ms.length := by
  have : ¬ ((i : Nat) : Int) < ((ms.length : Nat) : Int) := of_decide_eq_false hge
  omega
 rw [hge] at hall
 rw [allN_true hall, Bool.true_and] at hX
 clear hall
 refine ⟨{ i : Nat // i <= bs.length /\ ∀ j, j < i -> (cB bs g (an0 bs : Int) j || !allN (cA (nth bs j).an) (an0 bs)) = false }, fun i => ⟨247, [⟨2, [], .v (.int .i64 g)⟩, ⟨4, [], .bx 3 0⟩, ⟨9, [], .v (.int .i64 (an0 bs : Nat))⟩, ⟨11, [], .v (.int .i64 (i.1 : Nat))⟩], SPos ks ms bs ++ [.bx 42 [.sl 0, .sl 1, .sl 2]], [], dropL nats 4⟩, fun i => bs.length - i.1, ⟨[0, 1, 2, 3], ⟨0, by omega, fun j h => absurd h (by omega)⟩, ?_⟩, fun i => ?_⟩
 · exact aI (aI rfl (aI rfl (aI rfl (aI rfl trivial)))) (aI rfl (aI rfl (aI rfl (aI (aI rfl rfl) trivial))))
 obtain ⟨i, hi, hall⟩ := i
 refine aI (fun hlt => ?_) (fun hge => ?_)
 rotate_left
 · have hge : i = bs.length := by
    have : ¬ ((i : Nat) : Int) < ((bs.length : Nat) : Int) := of_decide_eq_false hge
    omega
   rw [hge] at hall
   rw [allN_true hall, Bool.true_and] at hX
   subst hX
   exact fun ρ S w' hi => ⟨rfl, hi.below⟩
 have hlt : i < bs.length := by
  have : ((i : Nat) : Int) < ((bs.length : Nat) : Int) := of_decide_eq_true hlt
  omega
 have bi : (0 : Int) <= (i : Int) /\ (i : Int) < (bs.length : Int) := ⟨by omega, by omega⟩
 refine Or.inl ⟨by kernel_rfl, ?_⟩
 refine aI bi ?_
 refine aI (fun _ => bi) ?_
 refine aI (fun _ _ => bi) ?_
 refine aI (fun h15 _ => bnd hlt (by omega) h15) ?_
 refine aI (fun hb => ?_) (fun hb => ?_)
 · have hb : cB bs g (an0 bs : Int) i = true := hb
   rw [allN_false (i := i) hlt (by rw [hb]; rfl), Bool.false_and] at hX
   subst hX
   exact fun ρ S w' hi => ⟨rfl, hi.below⟩
 have hb : cB bs g (an0 bs : Int) i = false := hb
 have hbl : (nth bs i).an.length = an0 bs := by
  unfold cB at hb
  rw [Bool.or_eq_false_iff, Bool.or_eq_false_iff] at hb
  have := hb.1.2
  rw [Bool.not_eq_false'] at this
  have := of_decide_eq_true this
  omega
 refine ⟨{ k : Nat // k <= an0 bs /\ ∀ j, j < k -> cA (nth bs i).an j = false }, fun k => ⟨247, [⟨2, [], .v (.int .i64 g)⟩, ⟨4, [], .bx 3 0⟩, ⟨9, [], .v (.int .i64 (an0 bs : Nat))⟩, ⟨11, [], .v (.int .i64 (i : Nat))⟩, ⟨12, [], .v (.int .i64 (k.1 : Nat))⟩], SPos ks ms bs ++ [.bx 42 [.sl 0, .sl 1, .sl 2]], [], dropL nats 4⟩, fun k => an0 bs - k.1, ⟨[0, 1, 2, 3], ⟨0, by omega, fun j h => absurd h (by omega)⟩, ?_⟩, fun k => ?_⟩
 · exact aI (aI rfl (aI rfl (aI rfl (aI rfl (aI rfl trivial))))) (aI rfl (aI rfl (aI rfl (aI (aI rfl rfl) trivial))))
 obtain ⟨k, hk, hka⟩ := k
 refine aI (fun hkl => ?_) (fun hkg => ?_)
 rotate_left
 · have hkg : k = an0 bs := by
    have : ¬ ((k : Nat) : Int) < ((an0 bs : Nat) : Int) := of_decide_eq_false hkg
    omega
   rw [hkg] at hka
   exact ⟨[0, 1, 2, 3], ⟨i + 1, hlt, fun j hj => by
    by_cases he : j = i
    · rw [he, hb, allN_true hka]; rfl
    · exact hall j (by omega)⟩, aI (aI rfl (aI rfl (aI rfl (aI (svI (i64_succ i (by omega))) trivial)))) (aI rfl (aI rfl (aI rfl (aI (aI rfl rfl) trivial)))), by show bs.length - (i + 1) < bs.length - i; omega⟩
 have hkl : k < an0 bs := by
  have : ((k : Nat) : Int) < ((an0 bs : Nat) : Int) := of_decide_eq_true hkl
  omega
 refine aI bi ?_
 refine aI (show (0 : Int) <= (k : Int) /\ (k : Int) < ((nth bs i).an.length : Int) from ⟨by omega, by omega⟩) ?_
 refine aI (fun ha => ?_) (fun ha => ?_)
 · have ha : cA (nth bs i).an k = true := ha
   rw [allN_false (i := i) hlt (by rw [allN_false hkl ha]; simp), Bool.false_and] at hX
   subst hX
   exact fun ρ S w' hi => ⟨rfl, hi.below⟩
 have ha : cA (nth bs i).an k = false := ha
 exact ⟨[0, 1, 2, 3], ⟨k + 1, hkl, fun j hj => by
  by_cases he : j = k
  · rw [he]; exact ha
  · exact hka j (by omega)⟩, aI (aI rfl (aI rfl (aI rfl (aI rfl (aI (svI (i64_succ k (by omega))) trivial))))) (aI rfl (aI rfl (aI rfl (aI (aI rfl rfl) trivial)))), by show an0 bs - (k + 1) < an0 bs - k; omega⟩
end Go.Proofs.YtjflgkadagkllaaGreat
