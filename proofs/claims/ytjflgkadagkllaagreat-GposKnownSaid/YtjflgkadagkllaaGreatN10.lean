/- calamuskit.RightLookups, RightFeatures. -/
import Derived.Test.YtjflgkadagkllaaGreatN9
set_option maxRecDepth 100000
set_option linter.unusedVariables false
namespace Go.Proofs.YtjflgkadagkllaaGreat
open Go Go.Eng Go.RowKit
structure Many where
 g : Int
 to : List Int
 deriving Inhabited
structure Lig where
 parts : List Int
 to : Int
 deriving Inhabited
structure Pair2 where
 a : Int
 b : Int
 deriving Inhabited
structure Sub where
 pairs : List Pair2
 manys : List Many
 ligs : List Lig
 back : List (List Int)
 ins : List (List Int)
 ahead : List (List Int)
 recs : List Pair2
 deriving Inhabited
structure LkU where
 ty : Int
 flag : Int
 subs : List Sub
 poss : List PosU
 deriving Inhabited
abbrev myE : Many -> List DV := fun m => [.v (.int .u16 m.g), .sl Int inferInstance 1 hE m.to]
abbrev liE : Lig -> List DV := fun m => [.sl Int inferInstance 1 hE m.parts, .v (.int .u16 m.to)]
abbrev wsE : List Int -> List DV := fun l => [.sl Int inferInstance 1 hE l]
abbrev paE : Pair2 -> List DV := fun p => [.v (.int .u16 p.a), .v (.int .u16 p.b)]
abbrev reE : Pair2 -> List DV := fun p => [.v (.int .i64 p.a), .v (.int .i64 p.b)]
abbrev suE : Sub -> List DV := fun s => [.sl Pair2 inferInstance 2 paE s.pairs, .sl Many inferInstance 2 myE s.manys, .sl Lig inferInstance 2 liE s.ligs, .sl (List Int) inferInstance 1 wsE s.back, .sl (List Int) inferInstance 1 wsE s.ins, .sl (List Int) inferInstance 1 wsE s.ahead, .sl Pair2 inferInstance 2 reE s.recs]
abbrev luE : LkU -> List DV := fun k => [.v (.int .u16 k.ty), .v (.int .u16 k.flag), .sl Sub inferInstance 7 suE k.subs, .sl PosU inferInstance 3 puE k.poss]
theorem nth_mem {α : Type} [Inhabited α] {xs : List α} {i : Nat} (h : i < xs.length) : nth xs i ∈ xs := by
 unfold nth
 rw [List.getD_eq_getElem?_getD, List.getElem?_eq_getElem h]
 exact List.getElem_mem h
def lenOk (p : PosU) : Prop := p.kerns.length <= 140737488351232 /\ p.marks.length <= 140737488351232 /\ p.bases.length <= 140737488351232 /\ ∀ x ∈ p.bases, x.an.length <= 140737488351232
def cL (l : LkU) : Bool := ((decide (l.flag > 14) || !decide (l.flag.tmod 2 = 0)) || false) || ((decide ((l.subs.length : Int) > 0) || decide ((l.poss.length : Int) = 0)) || decide ((l.poss.length : Int) > 256))
def rLooks (ls : List LkU) (g : Int) : Bool := decide (¬ (ls.length : Int) > 256) && allN (fun i => cL (nth ls i) || !allN (fun k => !rPos (nth ls i).ty (nth (nth ls i).poss k) g) (nth ls i).poss.length) ls.length
set_option maxHeartbeats 1000000 in
theorem right_looks (ls : List LkU) (g : Int) (hl : ∀ l ∈ ls, ∀ p ∈ l.poss, lenOk p) (v : Value) (w : World) (r : Rd w v 4 luE ls) :
 Calls Tryz.prog 14 #[v, .int .i64 g, .bool false] w fun e w' => e = .returned (.bool (rLooks ls g)) /\ Below w.heap.size w w' := by
 obtain ⟨X, hX⟩ : ∃ X, rLooks ls g = X := ⟨_, rfl⟩
 rw [hX]
 unfold rLooks at hX
 refine calls_exec (cf := cf) cfok (fn := Tryz.f14) Tryz.func14 rfl [.sl 0, .v (.int .i64 g), .v (.bool false)] [.rd LkU inferInstance 4 luE ls] (ρ := fun i => v) (· < w.heap.size) rfl rfl rfl (by simp [svOkL, svOk]) (memRd (fun _ h => h) ⟨r, trivial⟩) ?_
 refine aI (fun hn => ?_) (fun hn => ?_)
 · have hn : (ls.length : Int) > 256 := of_decide_eq_true hn
   rw [decide_eq_false (fun h => h hn), Bool.false_and] at hX
   subst hX
   exact fun ρ S w' hi => ⟨rfl, hi.below⟩
 have hn : ¬ (ls.length : Int) > 256 := of_decide_eq_false hn
 rw [decide_eq_true hn, Bool.true_and] at hX
 refine ⟨{ i : Nat // i <= ls.length /\ ∀ j, j < i -> (cL (nth ls j) || !allN (fun k => !rPos (nth ls j).ty (nth (nth ls j).poss k) g) (nth ls j).poss.length) = false }, fun i => ⟨149, [⟨0, [], .sl 0⟩, ⟨1, [], .v (.int .i64 g)⟩, ⟨2, [], .v (.bool false)⟩, ⟨7, [], .v (.int .i64 (i.1 : Nat))⟩], [.rd LkU inferInstance 4 luE ls], [], dropL nats 1⟩, fun i => ls.length - i.1, ⟨[0], ⟨0, by omega, fun j h => absurd h (by omega)⟩, ?_⟩, fun i => ?_⟩
 · exact aI (aI rfl (aI rfl (aI rfl (aI rfl trivial)))) (aI rfl trivial)
 obtain ⟨i, hi, hall⟩ := i
 refine aI (fun hlt => ?_) (fun hge => ?_)
 rotate_left
 · have hge : i = ls.length := by
    have : ¬ ((i : Nat) : Int) < ((ls.length : Nat) : Int) := of_decide_eq_false hge
    omega
   rw [hge] at hall
   rw [allN_true hall] at hX
   subst hX
   exact fun ρ S w' hi => ⟨rfl, hi.below⟩
 have hlt : i < ls.length := by
  have : ((i : Nat) : Int) < ((ls.length : Nat) : Int) := of_decide_eq_true hlt
  omega
 have bi : (0 : Int) <= (i : Int) /\ (i : Int) < (ls.length : Int) := ⟨by omega, by omega⟩
 have hlm := hl (nth ls i) (nth_mem hlt)
 refine aI bi ?_
 refine aI (fun _ => bi) ?_
 refine aI (fun _ => show (2 : Int) ≠ 0 by omega) ?_
 refine aI (fun _ _ => bi) ?_
 refine aI (fun _ _ _ => bi) ?_
 refine aI (fun _ _ _ => bi) ?_
 refine aI (fun _ _ => bi) ?_
 refine aI (fun _ _ _ => bi) ?_
 refine aI (fun _ _ _ => bi) ?_
 refine aI (fun hb => ?_) (fun hb => ?_)
 · have hb : cL (nth ls i) = true := hb
   rw [allN_false (i := i) hlt (by rw [hb]; rfl)] at hX
   subst hX
   exact fun ρ S w' hi => ⟨rfl, hi.below⟩
 have hb : cL (nth ls i) = false := hb
 have hs0 : (nth ls i).subs.length = 0 /\ (nth ls i).poss.length <= 256 := by
  unfold cL at hb
  rw [Bool.or_eq_false_iff, Bool.or_eq_false_iff, Bool.or_eq_false_iff (x := _ || _)] at hb
  have h1 := of_decide_eq_false hb.2.2
  have h2 := hb.2.1
  rw [Bool.or_eq_false_iff] at h2
  have h2 := of_decide_eq_false h2.1
  omega
 refine ⟨Unit, fun _ => ⟨149, [⟨0, [], .sl 0⟩, ⟨1, [], .v (.int .i64 g)⟩, ⟨2, [], .v (.bool false)⟩, ⟨7, [], .v (.int .i64 (i : Nat))⟩, ⟨8, [], .v (.int .i64 0)⟩], [.rd LkU inferInstance 4 luE ls], [], dropL nats 1⟩, fun i => 0, ⟨[0], (), ?_⟩, fun u => ?_⟩
 · exact aI (aI rfl (aI rfl (aI rfl (aI rfl (aI rfl trivial))))) (aI rfl trivial)
 refine aI bi ?_
 refine aI (fun hlt => ?_) (fun _ => ?_)
 · have : (0 : Int) < ((nth ls i).subs.length : Int) := of_decide_eq_true hlt
   omega
 refine ⟨{ k : Nat // k <= (nth ls i).poss.length /\ ∀ j, j < k -> (!rPos (nth ls i).ty (nth (nth ls i).poss j) g) = false }, fun k => ⟨149, [⟨0, [], .sl 0⟩, ⟨1, [], .v (.int .i64 g)⟩, ⟨2, [], .v (.bool false)⟩, ⟨7, [], .v (.int .i64 (i : Nat))⟩, ⟨9, [], .v (.int .i64 (k.1 : Nat))⟩], [.rd LkU inferInstance 4 luE ls], [], dropL nats 1⟩, fun k => (nth ls i).poss.length - k.1, ⟨[0], ⟨0, by omega, fun j h => absurd h (by omega)⟩, ?_⟩, fun k => ?_⟩
 · exact aI (aI rfl (aI rfl (aI rfl (aI rfl (aI rfl trivial))))) (aI rfl trivial)
 obtain ⟨k, hk, hka⟩ := k
 refine aI bi ?_
 refine aI (fun hkl => ?_) (fun hkg => ?_)
 rotate_left
 · have hkg : k = (nth ls i).poss.length := by
    have : ¬ ((k : Nat) : Int) < (((nth ls i).poss.length : Nat) : Int) := of_decide_eq_false hkg
    omega
   rw [hkg] at hka
   exact ⟨[0], ⟨i + 1, hlt, fun j hj => by
    by_cases he : j = i
    · rw [he, hb, allN_true hka]; rfl
    · exact hall j (by omega)⟩, aI (aI rfl (aI rfl (aI rfl (aI (svI (i64_succ i (by omega))) trivial)))) (aI rfl trivial), by show ls.length - (i + 1) < ls.length - i; omega⟩
 have hkl : k < (nth ls i).poss.length := by
  have : ((k : Nat) : Int) < (((nth ls i).poss.length : Nat) : Int) := of_decide_eq_true hkl
  omega
 have bk : (0 : Int) <= (k : Int) /\ (k : Int) < ((nth ls i).poss.length : Int) := ⟨by omega, by omega⟩
 refine Or.inl ⟨by kernel_rfl, ?_⟩
 refine aI bi ?_
 refine aI bi ?_
 refine aI bk ?_
 refine ⟨.bool (rPos (nth ls i).ty (nth (nth ls i).poss k) g), fun ρ S w' hm => ?_, ?_⟩
 · exact right_pos (nth ls i).ty (nth (nth ls i).poss k) g (hlm _ (nth_mem hkl)) _ _ _ w' (hm.rd 3 rfl rfl) (hm.rd 4 rfl rfl) (hm.rd 5 rfl rfl)
 refine aI (fun hr => ?_) (fun hr => ?_)
 · have hr : (!rPos (nth ls i).ty (nth (nth ls i).poss k) g) = true := hr
   rw [allN_false (i := i) hlt (by rw [allN_false hkl hr]; simp)] at hX
   subst hX
   exact fun ρ S w' hi => ⟨rfl, hi.below⟩
 have hr : (!rPos (nth ls i).ty (nth (nth ls i).poss k) g) = false := hr
 exact ⟨[0], ⟨k + 1, hkl, fun j hj => by
  by_cases he : j = k
  · rw [he]; exact hr
  · exact hka j (by omega)⟩, aI (aI rfl (aI rfl (aI rfl (aI rfl (aI (svI (i64_succ k (by omega))) trivial))))) (aI rfl trivial), by show (nth ls i).poss.length - (k + 1) < (nth ls i).poss.length - k; omega⟩
def cF (ks : List Int) (n : Int) (k : Nat) : Bool := (decide (nth ks k < 0) || decide (nth ks k >= n)) || (decide ((k : Int) > 0) && decide (nth ks k <= nth ks (pre k)))
def rFeats (fs : List Feat) (n : Int) : Bool := decide (¬ (fs.length : Int) > 512) && allN (fun i => !allN (cF (nth fs i).ks n) (nth fs i).ks.length) fs.length
theorem right_feats (fs : List Feat) (n : Int) (hl : ∀ f ∈ fs, f.ks.length <= 140737488351232) (v : Value) (w : World) (r : Rd w v 5 fE fs) :
 Calls Tryz.prog 15 #[v, .int .i64 n] w fun e w' => e = .returned (.bool (rFeats fs n)) /\ Below w.heap.size w w' := by
 obtain ⟨X, hX⟩ : ∃ X, rFeats fs n = X := ⟨_, rfl⟩
 rw [hX]
 unfold rFeats at hX
 refine calls_exec (cf := cf) cfok (fn := Tryz.f15) Tryz.func15 rfl [.sl 0, .v (.int .i64 n)] [.rd Feat inferInstance 5 fE fs] (ρ := fun i => v) (· < w.heap.size) rfl rfl rfl (by simp [svOkL, svOk]) (memRd (fun _ h => h) ⟨r, trivial⟩) ?_
 refine aI (fun hn => ?_) (fun hn => ?_)
 · have hn : (fs.length : Int) > 512 := of_decide_eq_true hn
   rw [decide_eq_false (fun h => h hn), Bool.false_and] at hX
   subst hX
   exact fun ρ S w' hi => ⟨rfl, hi.below⟩
 have hn : ¬ (fs.length : Int) > 512 := of_decide_eq_false hn
 rw [decide_eq_true hn, Bool.true_and] at hX
 refine ⟨{ i : Nat // i <= fs.length /\ ∀ j, j < i -> (!allN (cF (nth fs j).ks n) (nth fs j).ks.length) = false }, fun i => ⟨59, [⟨0, [], .sl 0⟩, ⟨1, [], .v (.int .i64 n)⟩, ⟨5, [], .v (.int .i64 (i.1 : Nat))⟩], [.rd Feat inferInstance 5 fE fs], [], dropL nats 1⟩, fun i => fs.length - i.1, ⟨[0], ⟨0, by omega, fun j h => absurd h (by omega)⟩, ?_⟩, fun i => ?_⟩
 · exact aI (aI rfl (aI rfl (aI rfl trivial))) (aI rfl trivial)
 obtain ⟨i, hi, hall⟩ := i
 refine aI (fun hlt => ?_) (fun hge => ?_)
 rotate_left
 · have hge : i = fs.length := by
    have : ¬ ((i : Nat) : Int) < ((fs.length : Nat) : Int) := of_decide_eq_false hge
    omega
   rw [hge] at hall
   rw [allN_true hall] at hX
   subst hX
   exact fun ρ S w' hi => ⟨rfl, hi.below⟩
 have hlt : i < fs.length := by
  have : ((i : Nat) : Int) < ((fs.length : Nat) : Int) := of_decide_eq_true hlt
  omega
 have bi : (0 : Int) <= (i : Int) /\ (i : Int) < (fs.length : Int) := ⟨by omega, by omega⟩
 have hkl := hl (nth fs i) (nth_mem hlt)
 refine ⟨{ k : Nat // k <= (nth fs i).ks.length /\ ∀ j, j < k -> cF (nth fs i).ks n j = false }, fun k => ⟨59, [⟨0, [], .sl 0⟩, ⟨1, [], .v (.int .i64 n)⟩, ⟨5, [], .v (.int .i64 (i : Nat))⟩, ⟨6, [], .v (.int .i64 (k.1 : Nat))⟩], [.rd Feat inferInstance 5 fE fs], [], dropL nats 1⟩, fun k => (nth fs i).ks.length - k.1, ⟨[0], ⟨0, by omega, fun j h => absurd h (by omega)⟩, ?_⟩, fun k => ?_⟩
 · exact aI (aI rfl (aI rfl (aI rfl (aI rfl trivial)))) (aI rfl trivial)
 obtain ⟨k, hk, hka⟩ := k
 refine aI bi ?_
 refine aI (fun hkl => ?_) (fun hkg => ?_)
 rotate_left
 · have hkg : k = (nth fs i).ks.length := by
    have : ¬ ((k : Nat) : Int) < (((nth fs i).ks.length : Nat) : Int) := of_decide_eq_false hkg
    omega
   rw [hkg] at hka
   exact ⟨[0], ⟨i + 1, hlt, fun j hj => by
    by_cases he : j = i
    · rw [he, allN_true hka]; rfl
    · exact hall j (by omega)⟩, aI (aI rfl (aI rfl (aI (svI (i64_succ i (by omega))) trivial))) (aI rfl trivial), by show fs.length - (i + 1) < fs.length - i; omega⟩
 have hkl : k < (nth fs i).ks.length := by
  have : ((k : Nat) : Int) < (((nth fs i).ks.length : Nat) : Int) := of_decide_eq_true hkl
  omega
 have bk : (0 : Int) <= (k : Int) /\ (k : Int) < ((nth fs i).ks.length : Int) := ⟨by omega, by omega⟩
 refine aI bi ?_
 refine aI bk ?_
 refine aI (fun _ _ => bi) ?_
 refine aI (fun h _ => bnd (n := (nth fs i).ks.length) hkl (by omega) h) ?_
 refine aI (fun hr => ?_) (fun hr => ?_)
 · have hr : cF (nth fs i).ks n k = true := hr
   rw [allN_false (i := i) hlt (by rw [allN_false hkl hr]; rfl)] at hX
   subst hX
   exact fun ρ S w' hi => ⟨rfl, hi.below⟩
 have hr : cF (nth fs i).ks n k = false := hr
 exact ⟨[0], ⟨k + 1, hkl, fun j hj => by
  by_cases he : j = k
  · rw [he]; exact hr
  · exact hka j (by omega)⟩, aI (aI rfl (aI rfl (aI rfl (aI (svI (i64_succ k (by omega))) trivial)))) (aI rfl trivial), by show (nth fs i).ks.length - (k + 1) < (nth fs i).ks.length - k; omega⟩
end Go.Proofs.YtjflgkadagkllaaGreat
