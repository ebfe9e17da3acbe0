/- The reference's plus, and Right. -/
import Derived.Test.YtfjkajlkehjnnaaGreatDoorB16
set_option maxRecDepth 100000
set_option linter.unusedVariables false
namespace Go.Proofs.YtfjkajlkehjnnaaGreatDoor
open Go Go.Eng Go.RowKit Go.Ar

/-- a number and a small one: on the way -/
structure Acp (b : Nat) (xs : List Nat) where
  i : Nat
  hi : i ≤ xs.length
  out : List Nat
  c : Nat
  hl : out.length = i
  hd : Dg out
  hc : c < 16
  hv : val out + R ^ i * c = val (xs.take i) + b
def Acp.start (b : Nat) (xs : List Nat) (hb : b < 16) : Acp b xs := ⟨0, by omega, [], b, rfl, Dg.nil, hb, by simp [val]⟩
def Acp.next {b : Nat} {xs : List Nat} (hx : Dg xs) (s : Acp b xs) (h : s.i < xs.length) : Acp b xs where
  i := s.i + 1
  hi := h
  out := s.out ++ [(nth xs s.i + s.c) % R]
  c := (nth xs s.i + s.c) / R
  hl := by simp [s.hl]
  hd := s.hd.snoc (Nat.mod_lt _ (by decide))
  hc := by
    have h1 := hx.nth s.i
    have h2 := s.hc
    simp only [R] at *
    omega
  hv := by
    have hv := s.hv
    rw [val_snoc, s.hl, nth_take_succ xs s.i h, val_snoc]
    have hl : (xs.take s.i).length = s.i := by simp; omega
    rw [hl, Nat.pow_succ]
    generalize hX : nth xs s.i + s.c = X
    have hdm := Nat.div_add_mod X R
    have e : R ^ s.i * (X % R) + R ^ s.i * R * (X / R) = R ^ s.i * X := by
      rw [Nat.mul_assoc, ← Nat.mul_add, Nat.add_comm (X % R), hdm]
    have e2 : R ^ s.i * X = R ^ s.i * nth xs s.i + R ^ s.i * s.c := by
      rw [← hX, Nat.mul_add]
    omega
theorem Acp.all {b : Nat} {xs : List Nat} (s : Acp b xs) (h : s.i = xs.length) : val (s.out ++ [s.c]) = val xs + b ∧ Dg (s.out ++ [s.c]) ∧ (s.out ++ [s.c]).length = xs.length + 1 := by
  have hv := s.hv
  rw [h, List.take_length] at hv
  refine ⟨by rw [val_snoc, s.hl, h]; exact hv, s.hd.snoc (Nat.lt_trans s.hc (by decide)), by simp [s.hl, h]⟩

theorem plus_c (xs : List Nat) (b : Nat) (v : Value) (w : World) (hx : Dg xs) (hb : b < 16) (hl : xs.length ≤ 100000) (hv : Rd w v 1 uE xs) :
    Calls Tryz.prog 45 #[v, .int .u32 b] w fun e w' => ∃ u, e = .returned u ∧ Below w.heap.size w w' ∧ Fresh w w' u 77 1 uE (toL (val xs + b)) := by
  refine calls_exec (cf := cf) cfok (fn := Tryz.f45) Tryz.func45 rfl [.sl 0, .v (.int .u32 b)] [rdU xs] (ρ := fun _ => v) (· < w.heap.size) rfl rfl rfl (by simp [svOkL, svOk]) (memRd (fun _ h => h) ⟨hv, trivial⟩) ?_
  refine ⟨Acp b xs, fun s => ⟨33, [⟨0, [], .sl 0⟩, ⟨1, [], .v (.int .u32 s.c)⟩, ⟨5, [], .sl 1⟩, ⟨6, [], .v (.int .i64 s.i)⟩], [rdU xs, owU s.out], [], dropL nats 2⟩, fun s => xs.length - s.i, ⟨[0, 1000], Acp.start b xs hb, ?_⟩, fun s => ?_⟩
  · exact And.intro (And.intro rfl (And.intro rfl (And.intro rfl (And.intro rfl trivial)))) (And.intro rfl (And.intro rfl trivial))
  have hsi := s.hi
  have hso := s.hl
  have hsc := s.hc
  refine And.intro (fun hlt => ?_) (fun hge => ?_)
  · have hlt : s.i < xs.length := by have : (s.i : Int) < (xs.length : Int) := of_decide_eq_true hlt
                                     omega
    have hsm := hx.nth s.i
    have eX : IntKind.u32.wrap (((nth xs s.i : Nat) : Int) + (s.c : Int)) = ((nth xs s.i + s.c : Nat) : Int) := usum (by simp only [B, R] at *; omega)
    refine And.intro ⟨by omega, by omega⟩ ?_
    refine ⟨[(nth xs s.i + s.c) % R], ⟨rfl, dvU ?_, by simp⟩, ?_, ?_⟩
    · refine Eq.trans (congrArg (fun z => bitsV .and .u32 z 65535) eX) (and16u (by simp only [B, R] at *; omega))
    · show (s.out.length + 1) * 4 ≤ _
      omega
    · refine And.intro (show (0 : Int) ≤ 16 by decide) ?_
      exact ⟨[0, 3], s.next hx hlt, And.intro (And.intro rfl (And.intro (svI ((congrArg (fun z => shrV .u32 z 16) eX).trans shr16u)) (And.intro rfl (And.intro (svI (i64_succ s.i (by omega))) trivial)))) (And.intro rfl (And.intro rfl trivial)), by show _ - (s.i + 1) < _ - s.i; omega⟩
  · have hge : s.i = xs.length := by have : ¬ (s.i : Int) < (xs.length : Int) := of_decide_eq_false hge
                                     omega
    obtain ⟨a1, a2, a3⟩ := s.all hge
    refine ⟨[s.c], ⟨rfl, dvU rfl, by simp⟩, by show (s.out.length + 1) * 4 ≤ _; omega, ?_⟩
    by_cases hn : s.out ++ [s.c] ≠ [] ∧ nth (s.out ++ [s.c]) ((s.out ++ [s.c]).length - 1) = 0
    · refine Or.inr (lcall_sub [3] (trim_cut _ a2 (by omega) hn) rfl rfl rfl rfl rfl (And.intro rfl trivial) ?_)
      rw [a1]
      exact fun ρ S w' hi => ⟨_, rfl, hi.below, hi.fresh 4 uE_flat rfl rfl⟩
    · have hn : s.out ++ [s.c] ≠ [] → nth (s.out ++ [s.c]) ((s.out ++ [s.c]).length - 1) ≠ 0 := fun h1 h2 => hn ⟨h1, h2⟩
      refine Or.inr (lcall_sub [3] (trim_id _ (by omega) hn) rfl rfl rfl rfl rfl (And.intro rfl trivial) ?_)
      refine fun ρ S w' hi => ⟨_, rfl, hi.below, ?_⟩
      rw [← a1, ← toL_of a2 hn]
      exact hi.fresh 3 uE_flat rfl rfl

/-! Right -/
abbrev iE : Nat → List DV := fun n => [.v (.int .i64 (n : Int))]
abbrev owI (xs : List Nat) : Chunk := .own 3 Nat inferInstance 1 iE xs
def rGo : List UInt8 → List Nat → Int → Option (List Nat × Int)
  | [], ds, b => some (ds, b)
  | c :: r, ds, b =>
    if isDig c = true then rGo r (ds ++ [c.toNat - 48]) (if b ≥ 0 then b + 1 else b)
    else if (c = 46 ∧ b < 0) ∧ 0 < ds.length then rGo r ds 0 else none
def rightF (l : List UInt8) : Bool × List Nat × Int × Bool :=
  if l.length > 40 then (false, [], 0, false)
  else match rGo (bodyF l) [] (-1) with
    | none => (false, [], 0, false)
    | some (ds, b) => (l.head? == some 45, ds, max b 0, decide (0 < ds.length) && !decide (b = 0))

theorem rightF_none {l : List UInt8} (h : ¬ l.length > 40) (e : rGo (bodyF l) [] (-1) = none) : rightF l = (false, [], 0, false) := by
  unfold rightF; rw [if_neg h, e]
theorem rightF_some {l : List UInt8} (h : ¬ l.length > 40) {ds : List Nat} {b : Int} (e : rGo (bodyF l) [] (-1) = some (ds, b)) : rightF l = (l.head? == some 45, ds, max b 0, decide (0 < ds.length) && !decide (b = 0)) := by
  unfold rightF; rw [if_neg h, e]

structure Rg (body : List UInt8) (res : Option (List Nat × Int)) where
  i : Nat
  ds : List Nat
  b : Int
  hi : i ≤ body.length
  hd : ds.length ≤ i
  hb : -1 ≤ b ∧ b ≤ i
  e : rGo (body.drop i) ds b = res
theorem Rg.at {body : List UInt8} {res : Option (List Nat × Int)} (s : Rg body res) (h : s.i < body.length) : rGo (body[s.i] :: body.drop (s.i + 1)) s.ds s.b = res := by
  rw [← List.drop_eq_getElem_cons h]; exact s.e
theorem right_s (l : List UInt8) (hl : l.length ≤ 1000) :
    LCall Tryz.prog ⟨0, [], [], [], []⟩ 24 [.v (.string (bs l))] (fun st' s => st'.ch = [owI (rightF l).2.1] ∧ s = .tup [.v (.bool (rightF l).1), .sl 0, .v (.int .i64 (rightF l).2.2.1), .v (.bool (rightF l).2.2.2)]) := by
  refine lcall_exec (cf := cf) cfok (fn := Tryz.f24) Tryz.func24 rfl _ _ [owI (rightF l).2.1] (.tup [.v (.bool (rightF l).1), .sl 0, .v (.int .i64 (rightF l).2.2.1), .v (.bool (rightF l).2.2.2)]) rfl rfl (by simp [svOkL, svOk]) rfl trivial rfl rfl ?_
  have el : (((bs l).size : Nat) : Int) = (l.length : Int) := by rw [bs_size]
  refine And.intro (fun h => ?_) (fun h => ?_)
  · have h : l.length > 40 := by have : (((bs l).size : Nat) : Int) > 40 := of_decide_eq_true h
                                 omega
    unfold rightF
    rw [if_pos h]
    exact ⟨[1000], rfl, rfl, rfl, And.intro rfl trivial, rfl⟩
  have h40 : ¬ l.length > 40 := by have : ¬ (((bs l).size : Nat) : Int) > 40 := of_decide_eq_false h
                                   omega
  obtain ⟨res, hres⟩ : ∃ res, res = rGo (bodyF l) [] (-1) := ⟨_, rfl⟩
  have hbl : (bodyF l).length ≤ 40 := by
    unfold bodyF; split
    · rw [List.length_drop]; omega
    · omega
  refine ⟨.int .u8 ((l.headD 0).toNat : Int), fun hg => ?_, ?_⟩
  · have hg : (!((bs l).toList == (bs []).toList)) = true := hg
    rw [bs_list, bs_list] at hg
    have hne : l ≠ [] := by intro e; subst e; simp at hg
    have hp : 0 < l.length := List.length_pos_iff.2 hne
    refine pure_strIndex (s := bs l) (z := 0) (b := l.headD 0) ttok rfl rfl rfl (by decide) (by rw [bs_size]; omega) ?_
    show (bs l).data[0]? = some (l.headD 0)
    cases l with
    | nil => exact absurd rfl hne
    | cons a r => rfl
  have eneg : ((!((bs l).toList == (bs []).toList)) && decide (((l.headD 0).toNat : Int) = 45)) = (l.head? == some 45) := by
    rw [bs_list, bs_list]
    cases l with
    | nil => rfl
    | cons a r =>
      rw [Bool.eq_iff_iff]
      simp only [List.headD_cons, List.head?_cons, Bool.and_eq_true, Bool.not_eq_true', beq_iff_eq, Option.some.injEq]
      constructor
      · rintro ⟨_, h⟩
        have h := of_decide_eq_true h
        exact UInt8.toNat_inj.1 (by have : (45 : UInt8).toNat = 45 := rfl; omega)
      · intro h; subst h; exact ⟨by simp, rfl⟩
  have e0 : (bs []) = { data := #[] } := rfl
  rw [e0] at eneg
  have ent : ∀ (a b : ByteArray) , a = b → SV.v (Value.string a) = SV.v (Value.string b) := fun a b e => by rw [e]
  refine And.intro (fun hn => ?gneg) (fun hn => ?gpos)
  case' gneg =>
    have hn := eneg.symm.trans hn
    have hp : 0 < l.length := by cases l with
      | nil => exact absurd hn (by decide)
      | cons a r => simp
    have ebs : (bs l).extract 1 (bs l).size = bs (bodyF l) := by
      rw [bs_extract, bs_size]
      unfold bodyF
      rw [if_pos hn, List.take_of_length_le (by simp)]
    refine And.intro ⟨by decide, by rw [bs_size]; omega⟩ ?_
  case' gpos =>
    have hn := eneg.symm.trans hn
    have ebs : bs l = bs (bodyF l) := by
      unfold bodyF
      rw [if_neg (by rw [hn]; decide)]
  all_goals refine ⟨Rg (bodyF l) res, fun s => ⟨77, [⟨0, [], .v (.string (bs (bodyF l)))⟩, ⟨6, [], .v (.bool (l.head? == some 45))⟩, ⟨7, [], .sl 0⟩, ⟨8, [], .v (.int .i64 s.b)⟩, ⟨9, [], .v (.int .i64 (s.i : Nat))⟩], [owI s.ds], [], dropL nats 1⟩, fun s => (bodyF l).length - s.i, ⟨[1000], ⟨0, [], -1, by omega, by simp, by omega, hres.symm⟩, And.intro (And.intro (ent _ _ ebs) (And.intro (congrArg (fun z => SV.v (Value.bool z)) eneg) (And.intro rfl (And.intro rfl (And.intro rfl trivial))))) (And.intro rfl trivial)⟩, fun s => ?_⟩
  all_goals (
    clear ebs hn eneg
    have hsi := s.hi
    have hsd := s.hd
    have hsb := s.hb
    refine And.intro (fun hlt => ?_) (fun hge => ?_)
    · have hlt : s.i < (bodyF l).length := by
        have : (s.i : Int) < (((bs (bodyF l)).size : Nat) : Int) := of_decide_eq_true hlt
        rw [bs_size] at this
        omega
      have hat := s.at hlt
      obtain ⟨c, hc⟩ : ∃ c, c = (bodyF l)[s.i] := ⟨_, rfl⟩
      rw [← hc] at hat
      have hgI : (bs (bodyF l)).data[s.i]? = some c := by rw [hc]; simp [hlt]
      refine ⟨.int .u8 (c.toNat : Int), pure_strIndex (s := bs (bodyF l)) (z := (s.i : Nat)) (b := c) ttok rfl rfl rfl (by omega) (by rw [bs_size]; omega) (by rw [Int.toNat_natCast]; exact hgI), ?_⟩
      refine ⟨.int .u8 (c.toNat : Int), fun _ => pure_strIndex (s := bs (bodyF l)) (z := (s.i : Nat)) (b := c) ttok rfl rfl rfl (by omega) (by rw [bs_size]; omega) (by rw [Int.toNat_natCast]; exact hgI), ?_⟩
      have hmu : ∀ a : Nat, a = s.i + 1 → (bodyF l).length - a < (bodyF l).length - s.i := by omega
      refine And.intro (fun hd => ?_) (fun hd => ?_)
      · have hd : isDig c = true := by
          have : (decide ((c.toNat : Int) ≥ 48) && decide ((c.toNat : Int) ≤ 57)) = true := hd
          unfold isDig
          rw [Bool.and_eq_true] at this ⊢
          have h1 := of_decide_eq_true this.1
          have h2 := of_decide_eq_true this.2
          exact ⟨decide_eq_true (by omega), decide_eq_true (by omega)⟩
        have hd2 : 48 ≤ c.toNat ∧ c.toNat ≤ 57 := by simpa [isDig] using hd
        rw [rGo, if_pos hd] at hat
        refine ⟨.int .u8 (c.toNat : Int), pure_strIndex (s := bs (bodyF l)) (z := (s.i : Nat)) (b := c) ttok rfl rfl rfl (by omega) (by rw [bs_size]; omega) (by rw [Int.toNat_natCast]; exact hgI), ?_⟩
        have ev : IntKind.i64.wrap (IntKind.u8.wrap ((c.toNat : Int) - 48)) = ((c.toNat - 48 : Nat) : Int) := by
          rw [IntWalk.u8_in _ ⟨by omega, by omega⟩, IntWalk.i64_in _ ⟨by omega, by omega⟩]; omega
        refine ⟨[c.toNat - 48], ⟨rfl, congrArg (fun z : Int => [DV.v (Value.int IntKind.i64 z)]) ev, by simp⟩, by show (s.ds.length + 1) * 8 ≤ _; omega, ?_⟩
        refine And.intro (fun hb0 => ?_) (fun hb0 => ?_)
        · have hb0 : s.b ≥ 0 := of_decide_eq_true hb0
          rw [if_pos hb0] at hat
          exact ⟨[2], ⟨s.i + 1, s.ds ++ [c.toNat - 48], s.b + 1, hlt, by simp; omega, by omega, hat⟩, And.intro (And.intro rfl (And.intro rfl (And.intro rfl (And.intro (svI (IntWalk.i64_in _ ⟨by omega, by omega⟩)) (And.intro (svI (i64_succ s.i (by omega))) trivial))))) (And.intro rfl trivial), hmu _ rfl⟩
        · have hb0 : ¬ s.b ≥ 0 := of_decide_eq_false hb0
          rw [if_neg hb0] at hat
          exact ⟨[2], ⟨s.i + 1, s.ds ++ [c.toNat - 48], s.b, hlt, by simp; omega, by omega, hat⟩, And.intro (And.intro rfl (And.intro rfl (And.intro rfl (And.intro rfl (And.intro (svI (i64_succ s.i (by omega))) trivial))))) (And.intro rfl trivial), hmu _ rfl⟩
      · have hd : ¬ isDig c = true := by
          intro hh
          have hd2 : 48 ≤ c.toNat ∧ c.toNat ≤ 57 := by simpa [isDig] using hh
          have : (decide ((c.toNat : Int) ≥ 48) && decide ((c.toNat : Int) ≤ 57)) = false := hd
          rw [decide_eq_true (by omega), decide_eq_true (by omega)] at this
          exact absurd this (by decide)
        rw [rGo, if_neg hd] at hat
        refine ⟨.int .u8 (c.toNat : Int), pure_strIndex (s := bs (bodyF l)) (z := (s.i : Nat)) (b := c) ttok rfl rfl rfl (by omega) (by rw [bs_size]; omega) (by rw [Int.toNat_natCast]; exact hgI), ?_⟩
        have ec : decide ((c.toNat : Int) = 46) = decide (c = 46) := by
          rw [decide_eq_decide]
          constructor
          · intro h; exact UInt8.toNat_inj.1 (by have : (46 : UInt8).toNat = 46 := rfl; omega)
          · intro h; subst h; rfl
        have econd : ((decide ((c.toNat : Int) = 46) && decide (s.b < 0)) && decide (((s.ds.length : Nat) : Int) > 0)) = decide ((c = 46 ∧ s.b < 0) ∧ 0 < s.ds.length) := by
          rw [ec, Bool.decide_and, Bool.decide_and]
          congr 1
          rw [decide_eq_decide]
          omega
        refine And.intro (fun hp => ?_) (fun hp => ?_)
        · have hp := of_decide_eq_true (econd.symm.trans hp)
          rw [if_pos hp] at hat
          exact ⟨[0], ⟨s.i + 1, s.ds, 0, hlt, by omega, by omega, hat⟩, And.intro (And.intro rfl (And.intro rfl (And.intro rfl (And.intro rfl (And.intro (svI (i64_succ s.i (by omega))) trivial))))) (And.intro rfl trivial), hmu _ rfl⟩
        · have hp := of_decide_eq_false (econd.symm.trans hp)
          rw [if_neg hp] at hat
          rw [rightF_none h40 (hres.symm.trans hat.symm)]
          exact ⟨[1000], rfl, rfl, rfl, And.intro rfl trivial, rfl⟩
    · have hge : s.i = (bodyF l).length := by
        have : ¬ (s.i : Int) < (((bs (bodyF l)).size : Nat) : Int) := of_decide_eq_false hge
        rw [bs_size] at this
        omega
      have hat := s.e
      rw [hge, List.drop_length, rGo] at hat
      rw [rightF_some h40 (hres.symm.trans hat.symm)]
      refine ⟨[0], rfl, rfl, rfl, And.intro rfl trivial, ?_⟩
      have ed : decide ((s.ds.length : Int) > 0) = decide (0 < s.ds.length) := by rw [decide_eq_decide]; omega
      rw [ed]
      rfl)
end Go.Proofs.YtfjkajlkehjnnaaGreatDoor
