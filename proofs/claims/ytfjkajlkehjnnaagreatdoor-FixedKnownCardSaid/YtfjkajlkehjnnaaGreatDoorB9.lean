/- fixed.Read: points of decimals, where the whole part is a number of 64 bits. -/
import Derived.Test.YtfjkajlkehjnnaaGreatDoorB8
import Derived.Test.YtfjkajlkehjnnaaGreatDoorG5
set_option maxRecDepth 100000
set_option linter.unusedVariables false
namespace Go.Proofs.YtfjkajlkehjnnaaGreatDoor
open Go Go.Eng Go.RowKit Go.Ar

/-- a row of digits' value -/
def decA (a : Nat) (l : List UInt8) : Nat := l.foldl (fun a b => a * 10 + (b.toNat - 48)) a
theorem decA_ge : ∀ (l : List UInt8) (a : Nat), a ≤ decA a l
  | [], a => Nat.le_refl _
  | b :: r, a => by
    have := decA_ge r (a * 10 + (b.toNat - 48))
    simp only [decA, List.foldl_cons] at this ⊢
    omega
theorem parse_dec : ∀ (l : List UInt8) (a : Nat), l.all isDig = true → a < 18446744073709551616 →
    Lib.parseUintM (2 ^ 64 - 1) a l = if decA a l < 18446744073709551616 then .ok (decA a l) else .range
  | [], a, _, ha => by simp [Lib.parseUintM, decA, ha]
  | b :: r, a, h, ha => by
    simp only [List.all_cons, Bool.and_eq_true] at h
    obtain ⟨hb, hr⟩ := h
    have hb : 48 ≤ b.toNat ∧ b.toNat ≤ 57 := by simpa [isDig] using hb
    have hge := decA_ge r (a * 10 + (b.toNat - 48))
    have hd : decA a (b :: r) = decA (a * 10 + (b.toNat - 48)) r := rfl
    rw [hd]
    unfold Lib.parseUintM
    rw [if_pos hb]
    split
    · rw [if_neg (by omega)]
    · split
      · rw [if_neg (by omega)]
      · exact parse_dec r _ hr (by omega)
theorem parse_all {l : List UInt8} (h : isDigs l = true) : Lib.parseUintB 64 l = if decA 0 l < 18446744073709551616 then .ok (decA 0 l) else .range := by
  have h : l ≠ [] ∧ l.all isDig = true := by
    unfold isDigs at h
    cases l with
    | nil => simp at h
    | cons a r => simpa using h
  unfold Lib.parseUintB
  rw [if_neg h.1]
  exact parse_dec l 0 h.2 (by decide)
theorem parse_ok (l : List UInt8) (h : isDigs l = true) (hu : decA 0 l < 18446744073709551616) (hl : l.length ≤ 100) (w : World) :
    Calls Tryz.prog 29 #[.string (bs l), .int .i64 10, .int .i64 64] w fun e w' => e = .returned (.tuple #[.int .u64 (decA 0 l : Nat), .nilIface]) ∧ Below w.heap.size w w' := by
  refine (Any.strconv_ParseUint_10_at64_ok laysPu14 (bs l) (by rw [bs_size]; omega) (decA 0 l) (by show Lib.parseUintB 64 l = _; rw [parse_all h, if_pos hu]) w).mono fun e w' hh => ?_
  obtain ⟨h1, h2⟩ := hh
  refine ⟨h1, ?_⟩
  rcases h2 with rfl | rfl
  · exact Below.refl _ _
  · exact Lib.bytesWorld_below _ _ _

/-- the digits behind the point, with noughts behind -/
def padD (part : List UInt8) (i : Nat) : List UInt8 := ((part.take i).map fun b => UInt8.ofNat (b.toNat - 48)) ++ List.replicate (40 - i) 0
theorem padD_len (part : List UInt8) {i : Nat} (h : i ≤ part.length) (h2 : part.length ≤ 40) : (padD part i).length = 40 := by
  unfold padD; simp; omega
theorem padD_succ (part : List UInt8) {i : Nat} (h : i < part.length) (h2 : part.length ≤ 40) : (padD part i).set i (UInt8.ofNat (part[i].toNat - 48)) = padD part (i + 1) := by
  unfold padD
  rw [List.take_succ_eq_append_getElem h, List.map_append, List.append_assoc, List.set_append]
  have hl : ((part.take i).map fun b => UInt8.ofNat (b.toNat - 48)).length = i := by simp; omega
  rw [hl, if_neg (by omega), Nat.sub_self, show 40 - i = (40 - (i + 1)) + 1 by omega, List.replicate_succ, List.set_cons_zero]
  rfl
theorem padD_dig (part : List UInt8) (h : part.all isDig = true) (i : Nat) : dig10 (padD part i) := by
  intro x hx
  unfold padD at hx
  rcases List.mem_append.1 hx with hx | hx
  · obtain ⟨b, hb, rfl⟩ := List.mem_map.1 hx
    have hb := List.mem_of_mem_take hb
    have := List.all_eq_true.1 h b hb
    have : 48 ≤ b.toNat ∧ b.toNat ≤ 57 := by simpa [isDig] using this
    have h1 := ofNat_u8 (n := b.toNat - 48) (by omega)
    omega
  · have := List.eq_of_mem_replicate hx
    subst this
    decide

/-- so many bits of a part -/
def bitsF (n : Nat) : Nat → Nat → List UInt8 → Nat × List UInt8
  | 0, w, ds => (w, ds)
  | k + 1, w, ds => bitsF n k (w * 2 + (dblGo n ds 0).2) (dblGo n ds 0).1
def bodyF (l : List UInt8) : List UInt8 := if l.head? == some 45 then l.drop 1 else l
def badF (l : List UInt8) : Bool := (decide (l.length > 40) || !isDigs (wholeF (bodyF l))) || (decide ((46 : UInt8) ∈ bodyF l) && !isDigs (partF (bodyF l)))
/-- a number and its half bit -/
def sumF (n w : Nat) (ds : List UInt8) : Nat := (bitsF n 16 w ds).1 + (if (dblGo n (bitsF n 16 w ds).2 0).2 = 1 then 1 else 0)
def readF (l : List UInt8) : Int × Int :=
  if badF l = true then (0, 2)
  else if decA 0 (wholeF (bodyF l)) > 140737488355328 then (0, 10)
  else
    let r := sgnF (sumF (partF (bodyF l)).length (decA 0 (wholeF (bodyF l))) (padD (partF (bodyF l)) (partF (bodyF l)).length)) (l.head? == some 45)
    if r.2 = 0 then r else (0, 10)

theorem or_bit {w b : Nat} (hb : b ≤ 1) (hw : w * 2 + 1 < W) : bitsV .or .u64 (shlV .u64 (w : Int) ((1 : Nat) : Int)) (b : Int) = ((w * 2 + b : Nat) : Int) := by
  rw [shl_n w (n := 1) (by decide), Nat.pow_one, Nat.mod_eq_of_lt (by omega), or_w (by omega) (by simp only [W]; omega)]
  congr 1
  have := Nat.shiftLeft_add_eq_or_of_lt (i := 1) (b := b) (by omega) w
  rw [Nat.shiftLeft_eq, Nat.pow_one] at this
  exact this.symm
theorem dblGo_ok : ∀ (j : Nat) (ds : List UInt8) (c : Nat), j ≤ ds.length → dig10 ds → c ≤ 1 → dig10 (dblGo j ds c).1 ∧ (dblGo j ds c).1.length = ds.length ∧ (dblGo j ds c).2 ≤ 1
  | 0, ds, c, _, h, hc => ⟨h, rfl, hc⟩
  | j + 1, ds, c, hj, h, hc => by
    have h1 := dig10_nth h (j := j) (by omega)
    obtain ⟨g1, g2, g3⟩ := dblGo_ok j (ds.set j (UInt8.ofNat ((2 * (nth ds j).toNat + c) % 10))) ((2 * (nth ds j).toNat + c) / 10) (by rw [List.length_set]; omega) (dig10_set h j (Nat.mod_lt _ (by decide))) (by omega)
    exact ⟨g1, by rw [dblGo, g2, List.length_set], g3⟩

/-- the bits on the way -/
structure Bt (n : Nat) (R : Nat × List UInt8) where
  i : Nat
  w : Nat
  ds : List UInt8
  hi : i ≤ 16
  hw : w < 140737488355329 * 2 ^ i
  hl : ds.length = 40
  hd : dig10 ds
  e : bitsF n (16 - i) w ds = R
theorem pow_le16 {i : Nat} (h : i ≤ 16) : 2 ^ i ≤ 65536 := Nat.pow_le_pow_right (n := 2) (by decide) h
def Bt.next {n : Nat} {R : Nat × List UInt8} (s : Bt n R) (hn : n ≤ 40) (h : s.i < 16) : Bt n R where
  i := s.i + 1
  w := s.w * 2 + (dblGo n s.ds 0).2
  ds := (dblGo n s.ds 0).1
  hi := h
  hw := by
    have := s.hw
    have := (dblGo_ok n s.ds 0 (by have := s.hl; omega) s.hd (by decide)).2.2
    rw [Nat.pow_succ]
    omega
  hl := by rw [(dblGo_ok n s.ds 0 (by have := s.hl; omega) s.hd (by decide)).2.1]; exact s.hl
  hd := (dblGo_ok n s.ds 0 (by have := s.hl; omega) s.hd (by decide)).1
  e := by
    have := s.e
    rw [show 16 - s.i = (16 - (s.i + 1)) + 1 by omega, bitsF] at this
    exact this
theorem Bt.wlt {n : Nat} {R : Nat × List UInt8} (s : Bt n R) : s.w < 9223372036854841344 := by
  have h1 := s.hw
  have h2 := pow_le16 s.hi
  have := Nat.mul_le_mul_left 140737488355329 h2
  omega

theorem read_c (l : List UInt8) (hl : l.length ≤ 1000) (hP : decA 0 (wholeF (bodyF l)) < 18446744073709551616) (w : World) : Calls Tryz.prog 8 #[.string (bs l)] w fun e w' =>
    e = .returned (.tuple #[.int .i64 (readF l).1, .int .i64 (readF l).2]) ∧ Below w.heap.size w w' := by
  have hbl : (bodyF l).length ≤ 1000 := by
    unfold bodyF; split
    · rw [List.length_drop]; omega
    · exact hl
  have hwl : (wholeF (bodyF l)).length ≤ (bodyF l).length := (List.takeWhile_sublist _).length_le
  have hpl : (partF (bodyF l)).length ≤ (bodyF l).length := by
    unfold partF
    rw [List.length_drop]
    have := (List.dropWhile_sublist (fun x : UInt8 => decide (x ≠ 46)) (l := bodyF l)).length_le
    omega
  refine calls_execD (cf := cf) cfok (fn := Tryz.f8) Tryz.func8 rfl [.v (.string (bs l))] [] (ρ := fun _ => undef) (· < w.heap.size) rfl rfl rfl (by simp [svOkL, svOk]) (memNil fun _ h => h) ?_
  refine Or.inl ⟨_, fun ρ S w' hm => cutPrefix_c l (by omega) w', ?_⟩
  refine Or.inl ⟨_, fun ρ S w' hm => cut_c (bodyF l) (by omega) w', ?_⟩
  refine Or.inl ⟨_, fun _ ρ S w' hm => digits_c (wholeF (bodyF l)) (by omega) w', ?_⟩
  refine Or.inl ⟨_, fun _ _ ρ S w' hm => digits_c (partF (bodyF l)) (by omega) w', ?_⟩
  have ebad : ((decide ((((bs l).size : Nat) : Int) > 40) || !isDigs (wholeF (bodyF l))) || (decide ((46 : UInt8) ∈ bodyF l) && !isDigs (partF (bodyF l)))) = badF l := by
    unfold badF
    congr 3
    rw [bs_size]
    apply propext
    omega
  refine And.intro (fun hb => ?_) (fun hb => ?_)
  · have hb : badF l = true := ebad.symm.trans hb
    rw [show readF l = (0, 2) by unfold readF; rw [if_pos hb]]
    exact fun ρ S w' hi => ⟨rfl, hi.below⟩
  have hb : badF l = false := ebad.symm.trans hb
  have hbad := hb
  simp only [badF, Bool.or_eq_false_iff, Bool.and_eq_false_imp, Bool.not_eq_false'] at hbad
  obtain ⟨⟨h40, hw⟩, hp⟩ := hbad
  have h40 : l.length ≤ 40 := by have := of_decide_eq_false h40; omega
  have hbl4 : (bodyF l).length ≤ 40 := by
    unfold bodyF; split
    · rw [List.length_drop]; omega
    · exact h40
  have hpd : (partF (bodyF l)).all isDig = true := by
    by_cases hin : (46 : UInt8) ∈ bodyF l
    · have := hp (decide_eq_true hin)
      unfold isDigs at this
      simp only [Bool.and_eq_true] at this
      exact this.2
    · rw [(tw_none _ hin).2]; rfl
  obtain ⟨wh, hW⟩ : ∃ wh, wh = decA 0 (wholeF (bodyF l)) := ⟨_, rfl⟩
  obtain ⟨part, hpart⟩ : ∃ part, part = partF (bodyF l) := ⟨_, rfl⟩
  have hrf : readF l = if wh > 140737488355328 then (0, 10) else if (sgnF (sumF part.length wh (padD part part.length)) (l.head? == some 45)).2 = 0 then sgnF (sumF part.length wh (padD part part.length)) (l.head? == some 45) else (0, 10) := by
    unfold readF
    rw [if_neg (show ¬ badF l = true by rw [hb]; decide), hW, hpart]
  rw [hrf]
  clear hrf
  refine Or.inl ⟨_, fun ρ S w' hm => parse_ok (wholeF (bodyF l)) hw hP (by omega) w', ?_⟩
  rw [← hW] at hP ⊢
  rw [← hpart] at hpl hpd ⊢
  refine ⟨_, pure_neqNil Tryz.underlying45 rfl false (.inl ⟨rfl, rfl⟩), ?_⟩
  refine And.intro (fun hbig => ?_) (fun hbig => ?_)
  · have hbig : wh > 140737488355328 := by
      have : (false || decide (((wh : Nat) : Int) > 140737488355328)) = true := hbig
      rw [Bool.false_or] at this
      have := of_decide_eq_true this
      omega
    rw [if_pos hbig]
    refine And.intro rfl (dcall_sub [1, 2] (caught_p 0 0 10) rfl rfl rfl rfl rfl (And.intro (And.intro rfl rfl) (And.intro (And.intro rfl rfl) trivial)) ?_)
    exact fun ρ S w' hi => ⟨rfl, hi.below⟩
  have hbig : ¬ wh > 140737488355328 := by
    have : (false || decide (((wh : Nat) : Int) > 140737488355328)) = false := hbig
    rw [Bool.false_or] at this
    have := of_decide_eq_false this
    omega
  rw [if_neg hbig]
  have hn40 : part.length ≤ 40 := by omega
  refine Or.inr ⟨UInt8, inferInstance, bE, List.replicate 40 0, rfl, by intro y _; rfl, rfl, rfl, rfl, rfl, ?_⟩
  have en : (((bs part).size : Nat) : Int) = ((part.length : Nat) : Int) := by rw [bs_size]
  refine ⟨{i : Nat // i ≤ part.length}, fun i => ⟨82, [⟨5, [], .v (.bool (l.head? == some 45))⟩, ⟨7, [], .bx 3 0⟩, ⟨9, [], .v (.int .u64 (wh : Nat))⟩, ⟨11, [], .bx 4 0⟩, ⟨54, [], .v (.int .i64 (part.length : Nat))⟩, ⟨55, [], .v (.int .i64 (i.1 : Nat))⟩, ⟨2, [], .bx 1 0⟩, ⟨3, [], .bx 2 0⟩],
      [.dead, .bx 2 [.v (.int .i64 0)], .bx 22 [.v (.int .i64 0)], .bx 9 [.v (.string (bs part))], dRow (padD part i.1)], [], dropL nats 5⟩, fun i => part.length - i.1, ⟨[0, 1, 2, 3, 4], ⟨0, Nat.zero_le _⟩, ?_⟩, fun i => ?_⟩
  · exact And.intro (And.intro rfl (And.intro rfl (And.intro rfl (And.intro rfl (And.intro (congrArg (fun z : Int => SV.v (Value.int IntKind.i64 z)) en) (And.intro rfl (And.intro rfl (And.intro rfl trivial)))))))) (And.intro trivial (And.intro (And.intro rfl rfl) (And.intro (And.intro rfl rfl) (And.intro (And.intro rfl rfl) (And.intro rfl trivial)))))
  obtain ⟨i, hi⟩ := i
  have hdl := padD_len part hi hn40
  refine And.intro (fun hlt => ?_) (fun hge => ?_)
  · have hlt : i < part.length := by
      have : (i : Int) < ((part.length : Nat) : Int) := of_decide_eq_true hlt
      omega
    refine ⟨_, pure_strIndex (s := bs part) (z := (i : Nat)) (b := part[i]) ttok rfl rfl rfl (by omega) (by rw [bs_size]; omega) (by
      rw [Int.toNat_natCast]
      show (bs part).data[i]? = some part[i]
      simp [hlt]), ?_⟩
    have hdi : 48 ≤ part[i].toNat ∧ part[i].toNat ≤ 57 := by
      have := List.all_eq_true.1 hpd part[i] (List.getElem_mem _)
      simpa [isDig] using this
    refine And.intro ⟨by omega, (show (i : Int) < ((40 : Nat) : Int) by omega), (show (i : Int) < (((padD part i).length : Nat) : Int) by rw [hdl]; omega)⟩ ?_
    have ev : IntKind.u8.wrap (((part[i]).toNat : Int) - 48) = ((UInt8.ofNat (part[i].toNat - 48)).toNat : Int) := by
      rw [IntWalk.u8_in _ ⟨by omega, by omega⟩, ofNat_u8 (by omega)]; omega
    refine ⟨UInt8.ofNat (part[i].toNat - 48), congrArg (fun z : Int => [DV.v (Value.int IntKind.u8 z)]) ev.symm, rfl, ?_⟩
    have e1 : IntKind.i64.wrap ((i : Int) + 1) = ((i + 1 : Nat) : Int) := by rw [IntWalk.i64_in _ ⟨by omega, by omega⟩]; omega
    have e2 : (padD part i).set ((i : Nat) : Int).toNat (UInt8.ofNat (part[i].toNat - 48)) = padD part (i + 1) := by rw [Int.toNat_natCast]; exact padD_succ part hlt hn40
    refine ⟨[0, 1, 2, 3, 4], ⟨i + 1, hlt⟩, And.intro (And.intro rfl (And.intro rfl (And.intro rfl (And.intro rfl (And.intro rfl (And.intro (congrArg (fun z : Int => SV.v (Value.int IntKind.i64 z)) e1) (And.intro rfl (And.intro rfl trivial)))))))) (And.intro trivial (And.intro (And.intro rfl rfl) (And.intro (And.intro rfl rfl) (And.intro (And.intro rfl rfl) (And.intro (congrArg dRow e2) trivial))))), ?_⟩
    show part.length - (i + 1) < part.length - i
    omega
  have hi : i = part.length := by
    have : ¬ (i : Int) < ((part.length : Nat) : Int) := of_decide_eq_false hge
    omega
  subst hi
  clear hge
  obtain ⟨R, hR⟩ : ∃ R, R = bitsF part.length 16 wh (padD part part.length) := ⟨_, rfl⟩
  refine ⟨Bt part.length R, fun s => ⟨82, [⟨5, [], .v (.bool (l.head? == some 45))⟩, ⟨9, [], .v (.int .u64 (s.w : Nat))⟩, ⟨13, [], .fn 30 [.bx 3 0, .bx 4 0]⟩, ⟨66, [], .v (.int .i64 (s.i : Nat))⟩, ⟨2, [], .bx 1 0⟩, ⟨3, [], .bx 2 0⟩],
      [.dead, .bx 2 [.v (.int .i64 0)], .bx 22 [.v (.int .i64 0)], .bx 9 [.v (.string (bs part))], dRow s.ds], [], dropL nats 5⟩, fun s => 16 - s.i, ⟨[0, 1, 2, 3, 4], ⟨0, wh, padD part part.length, by decide, by omega, hdl, padD_dig part hpd _, hR.symm⟩, ?_⟩, fun s => ?_⟩
  · exact And.intro (And.intro rfl (And.intro rfl (And.intro rfl (And.intro rfl (And.intro rfl (And.intro rfl trivial)))))) (And.intro trivial (And.intro (And.intro rfl rfl) (And.intro (And.intro rfl rfl) (And.intro (And.intro rfl rfl) (And.intro rfl trivial)))))
  have hsw := s.wlt
  have hsl := s.hl
  refine And.intro (fun hlt => ?_) (fun hge => ?_)
  · have hlt : s.i < 16 := by
      have := of_decide_eq_true hlt
      omega
    refine And.intro (show (0 : Int) ≤ 1 by decide) ?_
    refine Or.inr (lcall_sub [3, 4] (bit_c part s.ds hsl s.hd hn40) rfl rfl rfl rfl rfl (And.intro (And.intro rfl rfl) (And.intro rfl trivial)) ?_)
    have hb1 := (dblGo_ok part.length s.ds 0 (by omega) s.hd (by decide)).2.2
    have e1 : IntKind.i64.wrap ((s.i : Int) + 1) = ((s.i + 1 : Nat) : Int) := by
      have := s.hi
      rw [IntWalk.i64_in _ ⟨by omega, by omega⟩]; omega
    have hw15 : s.w < 4611686018427420672 := by
      have h1 := s.hw
      have h2 : 2 ^ s.i ≤ 32768 := Nat.pow_le_pow_right (n := 2) (by decide) (show s.i ≤ 15 by omega)
      have := Nat.mul_le_mul_left 140737488355329 h2
      omega
    have e2 : bitsV .or .u64 (shlV .u64 (s.w : Int) 1) (((dblGo part.length s.ds 0).2 : Nat) : Int) = (((s.next hn40 hlt).w : Nat) : Int) := or_bit hb1 (by simp only [W]; omega)
    refine ⟨[0, 1, 2, 3, 4], s.next hn40 hlt, And.intro (And.intro rfl (And.intro (congrArg (fun z : Int => SV.v (Value.int IntKind.u64 z)) e2) (And.intro rfl (And.intro (congrArg (fun z : Int => SV.v (Value.int IntKind.i64 z)) e1) (And.intro rfl (And.intro rfl trivial)))))) (And.intro trivial (And.intro (And.intro rfl rfl) (And.intro (And.intro rfl rfl) (And.intro (And.intro rfl rfl) (And.intro rfl trivial))))), ?_⟩
    show 16 - (s.i + 1) < 16 - s.i
    omega
  have hi : s.i = 16 := by
    have := of_decide_eq_false hge
    have := s.hi
    omega
  have he := s.e
  rw [hi, Nat.sub_self] at he
  have he1 : s.w = R.1 := congrArg Prod.fst he
  have he2 : s.ds = R.2 := congrArg Prod.snd he
  have hsum : sumF part.length wh (padD part part.length) = s.w + (if (dblGo part.length s.ds 0).2 = 1 then 1 else 0) := by
    unfold sumF
    rw [← hR, he1, he2]
  rw [hsum]
  refine Or.inr (lcall_sub [3, 4] (bit_c part s.ds hsl s.hd hn40) rfl rfl rfl rfl rfl (And.intro (And.intro rfl rfl) (And.intro rfl trivial)) ?_)
  refine And.intro (fun h1 => ?_) (fun h1 => ?_)
  · have h1 : (dblGo part.length s.ds 0).2 = 1 := by
      have : (((dblGo part.length s.ds 0).2 : Nat) : Int) = 1 := of_decide_eq_true h1
      omega
    rw [if_pos h1]
    have hadd : IntKind.u64.wrap ((s.w : Int) + 1) = ((s.w + 1 : Nat) : Int) := by rw [IntWalk.u64_in _ ⟨by omega, by omega⟩]; omega
    by_cases hs : (sgnF (s.w + 1) (l.head? == some 45)).2 = 0
    · rw [if_pos hs]
      refine Or.inl ⟨.int .i64 (sgnF (s.w + 1) (l.head? == some 45)).1, fun ρ S w' hm => by
          show Calls _ 31 #[.int .u64 (IntKind.u64.wrap ((s.w : Int) + 1)), .bool (l.head? == some 45)] _ _
          rw [hadd]; exact signed_c _ _ w' hs, ?_⟩
      rw [hs]
      refine And.intro rfl (dcall_sub [1, 2] (caught_r _ 0) rfl rfl rfl rfl rfl (And.intro (And.intro rfl rfl) (And.intro (And.intro rfl rfl) trivial)) ?_)
      exact fun ρ S w' hi => ⟨rfl, hi.below⟩
    · rw [if_neg hs]
      refine Or.inr (lcall_panic pcF (fun ρ S w' hm => by
          show Calls _ 31 #[.int .u64 (IntKind.u64.wrap ((s.w : Int) + 1)), .bool (l.head? == some 45)] _ _
          rw [hadd]; exact signed_p _ _ w' hs) ?_)
      refine And.intro rfl (dcall_sub [1, 2] (caught_p 0 0 10) rfl rfl rfl rfl rfl (And.intro (And.intro rfl rfl) (And.intro (And.intro rfl rfl) trivial)) ?_)
      exact fun ρ S w' hi => ⟨rfl, hi.below⟩
  · have h1 : ¬ (dblGo part.length s.ds 0).2 = 1 := by
      have : ¬ (((dblGo part.length s.ds 0).2 : Nat) : Int) = 1 := of_decide_eq_false h1
      omega
    rw [show s.w + (if (dblGo part.length s.ds 0).2 = 1 then 1 else 0) = s.w by rw [if_neg h1]; rfl]
    by_cases hs : (sgnF s.w (l.head? == some 45)).2 = 0
    · rw [if_pos hs]
      refine Or.inl ⟨.int .i64 (sgnF s.w (l.head? == some 45)).1, fun ρ S w' hm => signed_c _ _ w' hs, ?_⟩
      rw [hs]
      refine And.intro rfl (dcall_sub [1, 2] (caught_r _ 0) rfl rfl rfl rfl rfl (And.intro (And.intro rfl rfl) (And.intro (And.intro rfl rfl) trivial)) ?_)
      exact fun ρ S w' hi => ⟨rfl, hi.below⟩
    · rw [if_neg hs]
      refine Or.inr (lcall_panic pcF (fun ρ S w' hm => signed_p _ _ w' hs) ?_)
      refine And.intro rfl (dcall_sub [1, 2] (caught_p 0 0 10) rfl rfl rfl rfl rfl (And.intro (And.intro rfl rfl) (And.intro (And.intro rfl rfl) trivial)) ?_)
      exact fun ρ S w' hi => ⟨rfl, hi.below⟩
end Go.Proofs.YtfjkajlkehjnnaaGreatDoor
