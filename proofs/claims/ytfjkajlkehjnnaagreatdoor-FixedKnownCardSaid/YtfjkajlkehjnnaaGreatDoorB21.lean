/- fixed.Read: any text. -/
import Derived.Test.YtfjkajlkehjnnaaGreatDoorB9
import Derived.Test.YtfjkajlkehjnnaaGreatDoorLaid
import Derived.Shelf.Pu.ErrVarParseUint
import Derived.Stop.LaidErr
import Derived.LaidByTextLater
set_option maxRecDepth 100000
set_option linter.unusedVariables false
namespace Go.Eng
open Go Go.RowKit
/-- a call that hands back a plain value of which only a property is known -/
theorem lcall_any {P : Program} {st : St} {f : Nat} {args : List SV} {K : St → SV → Prop} {Kp : List PanicEntry → St → Prop} (R : Value → Prop)
    (hc : ∀ ρ S w, MemOk st ρ S w → Calls P f (denL ρ args).toArray w fun e w' => ∃ r, e = .returned r ∧ R r ∧ Below w.heap.size w w') (h : ∀ r, R r → K st (.v r)) : LCall P st f args K Kp := by
  intro ρ S w hm
  refine (hc ρ S w hm).mono fun e w' ⟨r, he, hr, hb⟩ => .inl ⟨st, .v r, ρ, S, he, ?_, trivial, h r hr⟩
  exact Adv.quiet rfl rfl rfl (ChExt.refl _) (fun _ _ => rfl) (hm.below hb) (fun i h1 h2 => absurd h2 (by omega)) hb
end Go.Eng
namespace Go.Proofs.YtfjkajlkehjnnaaGreatDoor
open Go Go.Eng Go.RowKit Go.Ar

/-- strconv.ErrRange holds an error -/
def ErrR (w : World) (tp : TypeId) (p : Value) : Prop := w.var? Tryz.prog "strconv.ErrRange" = some #[.iface tp p]
abbrev errG (tp : TypeId) (p : Value) : Chunk := .glb 5 [.v (.iface tp p)]
theorem memErr {w : World} {n : Nat} {env : List Ent} {ρ : Nat → Value} {ids : List Nat} {tp : TypeId} {p : Value} (h : ErrR w tp p) : MemOk ⟨n, env, [errG tp p], [], ids⟩ ρ (· < w.heap.size) w := by
  have hrow : ∃ e fz, w.heap[5]? = some (.cells #[.iface tp p] e fz) := by
    unfold ErrR World.var? at h
    rw [show Tryz.prog.globalNamed "strconv.ErrRange" = some 5 by kernel_rfl] at h
    simp only [Option.bind_some] at h
    split at h
    · rename_i cs e fz hh
      simp only [Option.some.injEq] at h
      subst h
      exact ⟨e, fz, hh⟩
    · cases h
  obtain ⟨e, fz, hrow⟩ := hrow
  refine ⟨fun id hid => ?_, fun id => ?_, fun i j b hi hj hij e1 e2 => ?_, fun i b hi e1 => ?_, fun b hb => hb, fun id => ?_⟩
  · have : id = 0 := by have : id < 1 := hid
                        omega
    subst this
    refine ⟨(Array.getElem?_eq_some_iff.1 hrow).1, _, e, fz, hrow, by simp, fun j d hd => ?_⟩
    match j with
    | 0 =>
      simp only [List.getElem?_cons_zero, Option.some.injEq] at hd
      subst hd
      exact ⟨.iface tp p, rfl, .v _ rfl⟩
    | k + 1 => simp at hd
  · match id with
    | 0 => exact trivial
    | k + 1 => rw [chGet_out _ _ (by simp)]; exact trivial
  · have h1 : i < 1 := hi
    have h2 : j < 1 := hj
    omega
  · have : i = 0 := by have : i < 1 := hi
                       omega
    subst this
    simp [chGet, ownBlk] at e1
  · match id with
    | 0 => intro q hq; simp [chGet, condsOf] at hq
    | k + 1 => rw [chGet_out _ _ (by simp)]; intro q hq; simp [condsOf] at hq
theorem errOf {st : St} {ρ : Nat → Value} {S : Nat → Prop} {w : World} {tp : TypeId} {p : Value} (hm : MemOk st ρ S w) (h : findG st.ch 5 = some [.v (.iface tp p)] := by rfl) : ErrR w tp p := by
  obtain ⟨_, cs, e, fz, h1, h2, h3⟩ := hm.glbRow h
  unfold ErrR World.var?
  rw [show Tryz.prog.globalNamed "strconv.ErrRange" = some 5 by kernel_rfl]
  simp only [Option.bind_some, h1, Option.some.injEq]
  apply Array.ext
  · simpa using h2
  · intro j g1 g2
    have g3 : j < 1 := by simpa using g2
    obtain rfl : j = 0 := by omega
    obtain ⟨x, h4, h5⟩ := h3 0 _ rfl
    cases h5
    rw [Array.getElem?_eq_getElem g1] at h4
    simpa using h4
theorem parse_range (l : List UInt8) (h : isDigs l = true) (hu : ¬ decA 0 l < 18446744073709551616) (hl : l.length ≤ 100) (w : World) {tp : TypeId} {p : Value} (hE : ErrR w tp p) :
    Calls Tryz.prog 29 #[.string (bs l), .int .i64 10, .int .i64 64] w fun e w' => ∃ r, e = .returned r ∧ (∃ N, r = .tuple #[.int .u64 18446744073709551615, .iface 111 (.pointer (some ⟨N, 0, none⟩))]) ∧ Below w.heap.size w w' := by
  refine (Any.strconv_ParseUint_10_at64_range_var laysPu14 (bs l) (by rw [bs_size]; omega) (by show Lib.parseUintB 64 l = _; rw [parse_all h, if_neg hu]) tp p w hE).mono fun e w' hh => ?_
  obtain ⟨N, h1, _, _, h2⟩ := hh
  exact ⟨_, h1, ⟨N, rfl⟩, h2⟩

theorem read_r (l : List UInt8) (hl : l.length ≤ 1000) (hP : ¬ decA 0 (wholeF (bodyF l)) < 18446744073709551616) (w : World) {tp : TypeId} {p : Value} (hE : ErrR w tp p) : Calls Tryz.prog 8 #[.string (bs l)] w fun e w' =>
    e = .returned (.tuple #[.int .i64 (readF l).1, .int .i64 (readF l).2]) ∧ Below w.heap.size w w' := by
  have hbl : (bodyF l).length ≤ 1000 := by
    unfold bodyF; split
    · rw [List.length_drop]; omega
    · exact hl
  have hwl : (wholeF (bodyF l)).length ≤ (bodyF l).length := (List.takeWhile_sublist _).length_le
  have hpl : (partF (bodyF l)).length ≤ (bodyF l).length := by
    unfold partF
    rw [List.length_drop]
    have := (List.dropWhile_sublist (fun x : UInt8 => decide (x ≠ 46)) (l := bodyF l)).length_le
    omega
  refine calls_execD (cf := cf) cfok (fn := Tryz.f8) Tryz.func8 rfl [.v (.string (bs l))] [errG tp p] (ρ := fun _ => undef) (· < w.heap.size) rfl rfl rfl (by simp [svOkL, svOk]) (memErr hE) ?_
  refine Or.inl ⟨_, fun ρ S w' hm => cutPrefix_c l (by omega) w', ?_⟩
  refine Or.inl ⟨_, fun ρ S w' hm => cut_c (bodyF l) (by omega) w', ?_⟩
  refine Or.inl ⟨_, fun _ ρ S w' hm => digits_c (wholeF (bodyF l)) (by omega) w', ?_⟩
  refine Or.inl ⟨_, fun _ _ ρ S w' hm => digits_c (partF (bodyF l)) (by omega) w', ?_⟩
  have ebad : ((decide ((((bs l).size : Nat) : Int) > 40) || !isDigs (wholeF (bodyF l))) || (decide ((46 : UInt8) ∈ bodyF l) && !isDigs (partF (bodyF l)))) = badF l := by
    unfold badF
    congr 3
    rw [bs_size]
    apply propext
    omega
  refine And.intro (fun hb => ?_) (fun hb => ?_)
  · have hb : badF l = true := ebad.symm.trans hb
    rw [show readF l = (0, 2) by unfold readF; rw [if_pos hb]]
    exact fun ρ S w' hi => ⟨rfl, hi.below⟩
  have hb : badF l = false := ebad.symm.trans hb
  have hbad := hb
  simp only [badF, Bool.or_eq_false_iff, Bool.and_eq_false_imp, Bool.not_eq_false'] at hbad
  obtain ⟨⟨h40, hw⟩, hp⟩ := hbad
  have h40 : l.length ≤ 40 := by have := of_decide_eq_false h40; omega
  have hbl4 : (bodyF l).length ≤ 40 := by
    unfold bodyF; split
    · rw [List.length_drop]; omega
    · exact h40
  rw [show readF l = (0, 10) by
    unfold readF
    rw [if_neg (show ¬ badF l = true by rw [hb]; decide), if_pos (by omega)]]
  refine Or.inr (lcall_any (fun r => ∃ N, r = .tuple #[.int .u64 18446744073709551615, .iface 111 (.pointer (some ⟨N, 0, none⟩))]) (fun ρ S w' hm => parse_range (wholeF (bodyF l)) hw hP (by omega) w' (errOf (tp := tp) (p := p) hm)) ?_)
  rintro r ⟨N, rfl⟩
  refine ⟨_, pure_neqNil Tryz.underlying45 rfl true (.inr ⟨⟨_, _, rfl⟩, rfl⟩), ?_⟩
  refine And.intro (fun _ => ?_) (fun h => by cases h)
  refine And.intro rfl (dcall_sub [2, 3] (caught_p 0 0 10) rfl rfl rfl rfl rfl (And.intro (And.intro rfl rfl) (And.intro (And.intro rfl rfl) trivial)) ?_)
  exact fun ρ S w' hi => ⟨rfl, hi.below⟩
theorem read_g (l : List UInt8) (hl : l.length ≤ 1000) (w : World) {tp : TypeId} {p : Value} (hE : ErrR w tp p) : Calls Tryz.prog 8 #[.string (bs l)] w fun e w' =>
    e = .returned (.tuple #[.int .i64 (readF l).1, .int .i64 (readF l).2]) ∧ Below w.heap.size w w' := by
  by_cases hP : decA 0 (wholeF (bodyF l)) < 18446744073709551616
  · exact read_c l hl hP w
  · exact read_r l hl hP w hE
end Go.Proofs.YtfjkajlkehjnnaaGreatDoor
