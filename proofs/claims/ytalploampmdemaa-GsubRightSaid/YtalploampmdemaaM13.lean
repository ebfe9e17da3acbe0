/- calamuskit.RightLookups, RightFeatures. -/
import Derived.Test.YtalploampmdemaaM12
set_option maxRecDepth 100000
set_option linter.unusedVariables false
namespace Go.Proofs.Ytalploampmdemaa
open Go Go.Eng Go.RowKit

structure Kern where
  a : Int
  b : Int
  x : Int
  deriving Inhabited
structure Mark where
  g : Int
  c : Int
  x : Int
  y : Int
  deriving Inhabited
structure Anchor where
  has : Bool
  x : Int
  y : Int
  deriving Inhabited
structure Base where
  g : Int
  an : List Anchor
  deriving Inhabited
structure PosU where
  kerns : List Kern
  marks : List Mark
  bases : List Base
deriving Inhabited
abbrev keE : Kern → List DV := fun k => [.v (.int .u16 k.a), .v (.int .u16 k.b), .v (.int .i16 k.x)]
abbrev maE : Mark → List DV := fun m => [.v (.int .u16 m.g), .v (.int .u16 m.c), .v (.int .i16 m.x), .v (.int .i16 m.y)]
abbrev anE : Anchor → List DV := fun a => [.v (.bool a.has), .v (.int .i16 a.x), .v (.int .i16 a.y)]
abbrev baE : Base → List DV := fun b => [.v (.int .u16 b.g), .sl Anchor inferInstance 3 anE b.an]
abbrev puE : PosU → List DV := fun p => [.sl Kern inferInstance 3 keE p.kerns, .sl Mark inferInstance 4 maE p.marks, .sl Base inferInstance 2 baE p.bases]
structure LkU where
  ty : Int
  flag : Int
  subs : List SubU
  poss : List PosU
  deriving Inhabited
abbrev luE : LkU → List DV := fun k => [.v (.int .u16 k.ty), .v (.int .u16 k.flag), .sl SubU inferInstance 7 suU k.subs, .sl PosU inferInstance 3 puE k.poss]
def cL (l : LkU) : Bool := ((decide (l.flag > 14) || !decide (l.flag.tmod 2 = 0)) || ((decide ((l.poss.length : Int) > 0) || decide ((l.subs.length : Int) = 0)) || decide ((l.subs.length : Int) > 256))) || false
def rLooks (ls : List LkU) (g : Int) : Bool := decide (¬ (ls.length : Int) > 256) && allN (fun i => cL (nth ls i) || !allN (fun k => !rSub (nth ls i).ty (nth (nth ls i).subs k) g (ls.length : Int)) (nth ls i).subs.length) ls.length
set_option maxHeartbeats 1000000 in
theorem right_looks (ls : List LkU) (g : Int) (hl : ∀ l ∈ ls, ∀ p ∈ l.subs, LenS p) (v : Value) (w : World) (r : Rd w v 4 luE ls) :
    Calls Try.prog 9 #[v, .int .i64 g, .bool true] w fun e w' => e = .returned (.bool (rLooks ls g)) ∧ Below w.heap.size w w' := by
  obtain ⟨X, hX⟩ : ∃ X, rLooks ls g = X := ⟨_, rfl⟩
  rw [hX]
  unfold rLooks at hX
  refine calls_exec (cf := cf) cfok (fn := Try.f9) Try.func9 rfl [.sl 0, .v (.int .i64 g), .v (.bool true)] [.rd LkU inferInstance 4 luE ls] (ρ := fun i => v) (· < w.heap.size) rfl rfl rfl (by simp [svOkL, svOk]) (memRd (fun _ h => h) ⟨r, trivial⟩) ?_
  refine And.intro (fun hn => ?_) (fun hn => ?_)
  · have hn : (ls.length : Int) > 256 := of_decide_eq_true hn
    rw [decide_eq_false (fun h => h hn), Bool.false_and] at hX
    subst hX
    exact fun ρ S w' hi => ⟨rfl, hi.below⟩
  have hn : ¬ (ls.length : Int) > 256 := of_decide_eq_false hn
  rw [decide_eq_true hn, Bool.true_and] at hX
  refine ⟨{ i : Nat // i ≤ ls.length ∧ ∀ j, j < i → (cL (nth ls j) || !allN (fun k => !rSub (nth ls j).ty (nth (nth ls j).subs k) g (ls.length : Int)) (nth ls j).subs.length) = false }, fun i => ⟨149, [⟨0, [], .sl 0⟩, ⟨1, [], .v (.int .i64 g)⟩, ⟨2, [], .v (.bool true)⟩, ⟨7, [], .v (.int .i64 (i.1 : Nat))⟩], [.rd LkU inferInstance 4 luE ls], [], dropL nats 1⟩, fun i => ls.length - i.1, ⟨[0], ⟨0, by omega, fun j h => absurd h (by omega)⟩, ?_⟩, fun i => ?_⟩
  · exact And.intro (And.intro rfl (And.intro rfl (And.intro rfl (And.intro rfl trivial)))) (And.intro rfl trivial)
  obtain ⟨i, hi, hall⟩ := i
  refine And.intro (fun hlt => ?_) (fun hge => ?_)
  rotate_left
  · have hge : i = ls.length := by
      have : ¬ ((i : Nat) : Int) < ((ls.length : Nat) : Int) := of_decide_eq_false hge
      omega
    rw [hge] at hall
    rw [allN_true hall] at hX
    subst hX
    exact fun ρ S w' hi => ⟨rfl, hi.below⟩
  have hlt : i < ls.length := by
    have : ((i : Nat) : Int) < ((ls.length : Nat) : Int) := of_decide_eq_true hlt
    omega
  have bi : (0 : Int) ≤ (i : Int) ∧ (i : Int) < (ls.length : Int) := ⟨by omega, by omega⟩
  have hlm := hl (nth ls i) (nth_mem hlt)
  refine And.intro bi ?_
  refine And.intro (fun _ => bi) ?_
  refine And.intro (fun _ => show (2 : Int) ≠ 0 by omega) ?_
  refine And.intro (fun _ _ => bi) ?_
  refine And.intro (fun _ _ _ => bi) ?_
  refine And.intro (fun _ _ _ => bi) ?_
  refine And.intro (fun _ _ => bi) ?_
  refine And.intro (fun _ _ _ => bi) ?_
  refine And.intro (fun _ _ _ => bi) ?_
  refine And.intro (fun hb => ?_) (fun hb => ?_)
  · have hb : cL (nth ls i) = true := hb
    rw [allN_false (i := i) hlt (by rw [hb]; rfl)] at hX
    subst hX
    exact fun ρ S w' hi => ⟨rfl, hi.below⟩
  have hb : cL (nth ls i) = false := hb
  have hs0 : (nth ls i).poss.length = 0 ∧ (nth ls i).subs.length ≤ 256 := by
    unfold cL at hb
    rw [Bool.or_false, Bool.or_eq_false_iff, Bool.or_eq_false_iff (x := _ || _), Bool.or_eq_false_iff (x := decide ((nth ls i).poss.length > (0 : Int)))] at hb
    have h1 := of_decide_eq_false hb.2.2
    have h2 := of_decide_eq_false hb.2.1.1
    omega
  refine ⟨{ k : Nat // k ≤ (nth ls i).subs.length ∧ ∀ j, j < k → (!rSub (nth ls i).ty (nth (nth ls i).subs j) g (ls.length : Int)) = false }, fun k => ⟨149, [⟨0, [], .sl 0⟩, ⟨1, [], .v (.int .i64 g)⟩, ⟨2, [], .v (.bool true)⟩, ⟨7, [], .v (.int .i64 (i : Nat))⟩, ⟨8, [], .v (.int .i64 (k.1 : Nat))⟩], [.rd LkU inferInstance 4 luE ls], [], dropL nats 1⟩, fun k => (nth ls i).subs.length - k.1, ⟨[0], ⟨0, by omega, fun j h => absurd h (by omega)⟩, ?_⟩, fun k => ?_⟩
  · exact And.intro (And.intro rfl (And.intro rfl (And.intro rfl (And.intro rfl (And.intro rfl trivial))))) (And.intro rfl trivial)
  obtain ⟨k, hk, hka⟩ := k
  refine And.intro bi ?_
  refine And.intro (fun hkl => ?_) (fun hkg => ?_)
  rotate_left
  · have hkg : k = (nth ls i).subs.length := by
      have : ¬ ((k : Nat) : Int) < (((nth ls i).subs.length : Nat) : Int) := of_decide_eq_false hkg
      omega
    rw [hkg] at hka
    refine ⟨Unit, fun _ => ⟨149, [⟨0, [], .sl 0⟩, ⟨1, [], .v (.int .i64 g)⟩, ⟨2, [], .v (.bool true)⟩, ⟨7, [], .v (.int .i64 (i : Nat))⟩, ⟨9, [], .v (.int .i64 0)⟩], [.rd LkU inferInstance 4 luE ls], [], dropL nats 1⟩, fun i => 0, ⟨[0], (), ?_⟩, fun u => ?_⟩
    · exact And.intro (And.intro rfl (And.intro rfl (And.intro rfl (And.intro rfl (And.intro rfl trivial))))) (And.intro rfl trivial)
    refine And.intro bi ?_
    refine And.intro (fun hlt => ?_) (fun _ => ?_)
    · have : (0 : Int) < ((nth ls i).poss.length : Int) := of_decide_eq_true hlt
      omega
    exact ⟨[0], ⟨i + 1, hlt, fun j hj => by
      by_cases he : j = i
      · rw [he, hb, allN_true hka]; rfl
      · exact hall j (by omega)⟩, And.intro (And.intro rfl (And.intro rfl (And.intro rfl (And.intro (svI (i64_succ i (by omega))) trivial)))) (And.intro rfl trivial), by show ls.length - (i + 1) < ls.length - i; omega⟩
  have hkl : k < (nth ls i).subs.length := by
    have : ((k : Nat) : Int) < (((nth ls i).subs.length : Nat) : Int) := of_decide_eq_true hkl
    omega
  have bk : (0 : Int) ≤ (k : Int) ∧ (k : Int) < ((nth ls i).subs.length : Int) := ⟨by omega, by omega⟩
  refine Or.inl ⟨by kernel_rfl, ?_⟩
  refine And.intro bi ?_
  refine And.intro bi ?_
  refine And.intro bk ?_
  refine ⟨.bool (rSub (nth ls i).ty (nth (nth ls i).subs k) g (ls.length : Int)), fun ρ S w' hm => ?_, ?_⟩
  · exact right_sub (nth ls i).ty (nth (nth ls i).subs k) g (ls.length : Int) (hlm _ (nth_mem hkl)) _ _ _ _ _ _ _ w' (hm.rd 3 rfl rfl) (hm.rd 4 rfl rfl) (hm.rd 5 rfl rfl) (hm.rd 6 rfl rfl) (hm.rd 7 rfl rfl) (hm.rd 8 rfl rfl) (hm.rd 9 rfl rfl)
  refine And.intro (fun hr => ?_) (fun hr => ?_)
  · have hr : (!rSub (nth ls i).ty (nth (nth ls i).subs k) g (ls.length : Int)) = true := hr
    rw [allN_false (i := i) hlt (by rw [allN_false hkl hr]; simp)] at hX
    subst hX
    exact fun ρ S w' hi => ⟨rfl, hi.below⟩
  have hr : (!rSub (nth ls i).ty (nth (nth ls i).subs k) g (ls.length : Int)) = false := hr
  exact ⟨[0], ⟨k + 1, hkl, fun j hj => by
      by_cases he : j = k
      · rw [he]; exact hr
      · exact hka j (by omega)⟩, And.intro (And.intro rfl (And.intro rfl (And.intro rfl (And.intro rfl (And.intro (svI (i64_succ k (by omega))) trivial))))) (And.intro rfl trivial), by show (nth ls i).subs.length - (k + 1) < (nth ls i).subs.length - k; omega⟩
def cF (ks : List Int) (n : Int) (k : Nat) : Bool := (decide (nth ks k < 0) || decide (nth ks k ≥ n)) || (decide ((k : Int) > 0) && decide (nth ks k ≤ nth ks (pre k)))
def rFeats (fs : List Feat) (n : Int) : Bool := decide (¬ (fs.length : Int) > 512) && allN (fun i => !allN (cF (nth fs i).ks n) (nth fs i).ks.length) fs.length
theorem right_feats (fs : List Feat) (n : Int) (hl : ∀ f ∈ fs, f.ks.length ≤ 140737488351232) (v : Value) (w : World) (r : Rd w v 5 fE fs) :
    Calls Try.prog 10 #[v, .int .i64 n] w fun e w' => e = .returned (.bool (rFeats fs n)) ∧ Below w.heap.size w w' := by
  obtain ⟨X, hX⟩ : ∃ X, rFeats fs n = X := ⟨_, rfl⟩
  rw [hX]
  unfold rFeats at hX
  refine calls_exec (cf := cf) cfok (fn := Try.f10) Try.func10 rfl [.sl 0, .v (.int .i64 n)] [.rd Feat inferInstance 5 fE fs] (ρ := fun i => v) (· < w.heap.size) rfl rfl rfl (by simp [svOkL, svOk]) (memRd (fun _ h => h) ⟨r, trivial⟩) ?_
  refine And.intro (fun hn => ?_) (fun hn => ?_)
  · have hn : (fs.length : Int) > 512 := of_decide_eq_true hn
    rw [decide_eq_false (fun h => h hn), Bool.false_and] at hX
    subst hX
    exact fun ρ S w' hi => ⟨rfl, hi.below⟩
  have hn : ¬ (fs.length : Int) > 512 := of_decide_eq_false hn
  rw [decide_eq_true hn, Bool.true_and] at hX
  refine ⟨{ i : Nat // i ≤ fs.length ∧ ∀ j, j < i → (!allN (cF (nth fs j).ks n) (nth fs j).ks.length) = false }, fun i => ⟨59, [⟨0, [], .sl 0⟩, ⟨1, [], .v (.int .i64 n)⟩, ⟨5, [], .v (.int .i64 (i.1 : Nat))⟩], [.rd Feat inferInstance 5 fE fs], [], dropL nats 1⟩, fun i => fs.length - i.1, ⟨[0], ⟨0, by omega, fun j h => absurd h (by omega)⟩, ?_⟩, fun i => ?_⟩
  · exact And.intro (And.intro rfl (And.intro rfl (And.intro rfl trivial))) (And.intro rfl trivial)
  obtain ⟨i, hi, hall⟩ := i
  refine And.intro (fun hlt => ?_) (fun hge => ?_)
  rotate_left
  · have hge : i = fs.length := by
      have : ¬ ((i : Nat) : Int) < ((fs.length : Nat) : Int) := of_decide_eq_false hge
      omega
    rw [hge] at hall
    rw [allN_true hall] at hX
    subst hX
    exact fun ρ S w' hi => ⟨rfl, hi.below⟩
  have hlt : i < fs.length := by
    have : ((i : Nat) : Int) < ((fs.length : Nat) : Int) := of_decide_eq_true hlt
    omega
  have bi : (0 : Int) ≤ (i : Int) ∧ (i : Int) < (fs.length : Int) := ⟨by omega, by omega⟩
  have hkl := hl (nth fs i) (nth_mem hlt)
  refine ⟨{ k : Nat // k ≤ (nth fs i).ks.length ∧ ∀ j, j < k → cF (nth fs i).ks n j = false }, fun k => ⟨59, [⟨0, [], .sl 0⟩, ⟨1, [], .v (.int .i64 n)⟩, ⟨5, [], .v (.int .i64 (i : Nat))⟩, ⟨6, [], .v (.int .i64 (k.1 : Nat))⟩], [.rd Feat inferInstance 5 fE fs], [], dropL nats 1⟩, fun k => (nth fs i).ks.length - k.1, ⟨[0], ⟨0, by omega, fun j h => absurd h (by omega)⟩, ?_⟩, fun k => ?_⟩
  · exact And.intro (And.intro rfl (And.intro rfl (And.intro rfl (And.intro rfl trivial)))) (And.intro rfl trivial)
  obtain ⟨k, hk, hka⟩ := k
  refine And.intro bi ?_
  refine And.intro (fun hkl => ?_) (fun hkg => ?_)
  rotate_left
  · have hkg : k = (nth fs i).ks.length := by
      have : ¬ ((k : Nat) : Int) < (((nth fs i).ks.length : Nat) : Int) := of_decide_eq_false hkg
      omega
    rw [hkg] at hka
    exact ⟨[0], ⟨i + 1, hlt, fun j hj => by
      by_cases he : j = i
      · rw [he, allN_true hka]; rfl
      · exact hall j (by omega)⟩, And.intro (And.intro rfl (And.intro rfl (And.intro (svI (i64_succ i (by omega))) trivial))) (And.intro rfl trivial), by show fs.length - (i + 1) < fs.length - i; omega⟩
  have hkl : k < (nth fs i).ks.length := by
    have : ((k : Nat) : Int) < (((nth fs i).ks.length : Nat) : Int) := of_decide_eq_true hkl
    omega
  have bk : (0 : Int) ≤ (k : Int) ∧ (k : Int) < ((nth fs i).ks.length : Int) := ⟨by omega, by omega⟩
  refine And.intro bi ?_
  refine And.intro bk ?_
  refine And.intro (fun _ _ => bi) ?_
  refine And.intro (fun h _ => bnd (n := (nth fs i).ks.length) hkl (by omega) h) ?_
  refine And.intro (fun hr => ?_) (fun hr => ?_)
  · have hr : cF (nth fs i).ks n k = true := hr
    rw [allN_false (i := i) hlt (by rw [allN_false hkl hr]; rfl)] at hX
    subst hX
    exact fun ρ S w' hi => ⟨rfl, hi.below⟩
  have hr : cF (nth fs i).ks n k = false := hr
  exact ⟨[0], ⟨k + 1, hkl, fun j hj => by
      by_cases he : j = k
      · rw [he]; exact hr
      · exact hka j (by omega)⟩, And.intro (And.intro rfl (And.intro rfl (And.intro rfl (And.intro (svI (i64_succ k (by omega))) trivial)))) (And.intro rfl trivial), by show (nth fs i).ks.length - (k + 1) < (nth fs i).ks.length - k; omega⟩
end Go.Proofs.Ytalploampmdemaa
