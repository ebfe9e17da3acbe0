/- calamuslaw01.FixedReads. -/
import Derived.Test.YtfjkajlkehjnnaaGreatDoorB10
import Derived.Test.YtfjkajlkehjnnaaGreatDoorB21
import Derived.Test.YtfjkajlkehjnnaaGreatDoorB23
set_option maxRecDepth 100000
set_option linter.unusedVariables false
namespace Go.Proofs.YtfjkajlkehjnnaaGreatDoor
open Go Go.Eng Go.RowKit Go.Ar

theorem svS {a b : List UInt8} (h : a = b) : SV.v (Value.string (bs a)) = SV.v (Value.string (bs b)) := by rw [h]
theorem svB {a b : ByteArray} (h : a = b) : SV.v (Value.string a) = SV.v (Value.string b) := by rw [h]

theorem midF_len (ds : List Nat) (m j : Nat) : (midF ds m j).length ≤ j + 1 := by
  unfold midF
  split
  · rw [List.length_map, List.length_take]; omega
  · simp only [List.length_append, List.length_map, List.length_take, List.length_cons, List.length_drop]; omega
theorem nth_at {ds : List Nat} {j : Nat} (h : j < ds.length) : nth ds j = ds[j] := by
  unfold nth; rw [List.getD_eq_getElem?_getD, List.getElem?_eq_getElem h]; rfl
theorem midF_dot (ds : List Nat) {m j : Nat} (h : j < ds.length) (e : j = m) : midF ds m (j + 1) = midF ds m j ++ [46] ++ [dch (nth ds j)] := by
  subst e
  unfold midF
  rw [if_neg (by omega), if_pos (Nat.le_refl _), List.take_succ_eq_append_getElem h, List.drop_append_of_le_length (by rw [List.length_take]; omega), List.drop_of_length_le (by rw [List.length_take]; omega), nth_at h]
  simp
theorem midF_no (ds : List Nat) {m j : Nat} (h : j < ds.length) (e : j ≠ m) : midF ds m (j + 1) = midF ds m j ++ [dch (nth ds j)] := by
  unfold midF
  by_cases hj : j + 1 ≤ m
  · rw [if_pos hj, if_pos (by omega), List.take_succ_eq_append_getElem h, nth_at h, List.map_append]; rfl
  · rw [if_neg hj, if_neg (by omega), List.take_succ_eq_append_getElem h, List.drop_append_of_le_length (by rw [List.length_take]; omega), nth_at h]
    simp

theorem lawReads_c (l : List UInt8) (n : Nat) (hn : n ≤ 255) (w : World) {tp : TypeId} {p : Value} (hE : ErrR w tp p) : Calls Tryz.prog 7 #[.string (bs l), .int .u8 (n : Nat)] w fun e w' => e = .returned (.bool true) ∧ Below w.heap.size w w' := by
  refine calls_exec (cf := cf) cfok (fn := Tryz.f7) Tryz.func7 rfl [.v (.string (bs l)), .v (.int .u8 (n : Nat))] [errG tp p] (ρ := fun _ => undef) (· < w.heap.size) rfl rfl rfl (by simp [svOkL, svOk]) (memErr hE) ?_
  refine And.intro (fun h => ?_) (fun h => ?_)
  · refine Or.inl ⟨.bool true, fun ρ S w' hm => works_c w', ?_⟩
    exact fun ρ S w' hi => ⟨rfl, hi.below⟩
  have h200 : l.length ≤ 200 := by
    have : ¬ (((bs l).size : Nat) : Int) > 200 := of_decide_eq_false h
    rw [bs_size] at this
    omega
  refine Or.inl ⟨.tuple #[.int .i64 (readF l).1, .int .i64 (readF l).2], fun ρ S w' hm => read_g l (by omega) w' (errOf (tp := tp) (p := p) hm), ?_⟩
  refine Or.inl ⟨.tuple #[.int .i64 (readF l).1, .int .i64 (readF l).2], fun ρ S w' hm => by
    have h := refRead_c l (by omega) w'
    rw [ref_eq] at h
    exact h, ?_⟩
  refine And.intro (fun h => ?_) (fun h => ?_)
  · exfalso
    have : (!decide ((readF l).1 = (readF l).1) || !decide ((readF l).2 = (readF l).2)) = true := h
    simp at this
  refine Or.inr (lcall_sub [] (right_s l (by omega)) rfl rfl rfl rfl rfl trivial ?_)
  refine And.intro (fun _ => show (8 : Int) ≠ 0 by decide) ?_
  obtain ⟨k, hk⟩ : ∃ k, k = n % 8 := ⟨_, rfl⟩
  have hk8 : k < 8 := by omega
  have erem : ((n : Nat) : Int).tmod 8 = ((k : Nat) : Int) := by rw [hk]; rfl
  have hright := fun hb => text_read (l := l) hb k
  have hrb : (rightF l).2.2.2 = true → badF l = false := fun h => by
    by_cases hb : badF l = true
    · rw [right_bad hb] at h; cases h
    · simpa using hb
  obtain ⟨fd, f40, fb, fbl⟩ := rightF_facts l
  obtain ⟨⟨neg, ds, behind, ok⟩, hR⟩ : ∃ r, r = rightF l := ⟨_, rfl⟩
  rw [← hR] at fd f40 fb fbl hright hrb ⊢
  clear hR
  replace fd : ∀ x ∈ ds, x < 10 := fd
  replace f40 : ds.length ≤ 40 := f40
  replace fb : 0 ≤ behind := fb
  replace fbl : behind ≤ ds.length := fbl
  obtain ⟨b, rfl⟩ : ∃ b : Nat, behind = (b : Int) := ⟨behind.toNat, by omega⟩
  have hbl : b ≤ ds.length := by omega
  refine And.intro (fun h2 => ?_) (fun h2 => ?_)
  · refine Or.inl ⟨.bool true, fun ρ S w' hm => works_c w', ?_⟩
    exact fun ρ S w' hi => ⟨rfl, hi.below⟩
  replace h2 : (!ok || decide (IntKind.i64.wrap ((ds.length : Int) + IntKind.i64.wrap (IntKind.i64.wrap (((n : Nat) : Int).tmod 8) * 2)) > 36)) = false := h2
  rw [erem, IntWalk.i64_in ((k : Nat) : Int) ⟨by omega, by omega⟩, IntWalk.i64_in (((k : Nat) : Int) * 2) ⟨by omega, by omega⟩, IntWalk.i64_in (((ds.length : Nat) : Int) + ((k : Nat) : Int) * 2) ⟨by omega, by omega⟩, Bool.or_eq_false_iff] at h2
  have hok : ok = true := by simpa using h2.1
  have hlk : ds.length + 2 * k ≤ 36 := by have := of_decide_eq_false h2.2; omega
  have hread := hright (hrb hok) hlk
  replace hread : readF (textF neg ds ((b : Nat) : Int).toNat k) = readF l := hread
  rw [Int.toNat_natCast] at hread
  have htl := text_len neg ds b k
  clear hright hrb
  obtain ⟨a, e, hae⟩ : ∃ a e, readF l = (a, e) := ⟨_, _, rfl⟩
  rw [hae] at hread ⊢
  have zsucc : ∀ (X : List UInt8) (i : Nat), X ++ zs i ++ [48] = X ++ zs (i + 1) := fun X i => by
    rw [List.append_assoc, ← List.replicate_succ']
  have u8s : ∀ i : Nat, i < 8 → IntKind.u8.wrap ((i : Int) + 1) = ((i + 1 : Nat) : Int) := fun i hi => by rw [IntWalk.u8_in _ ⟨by omega, by omega⟩]; omega
  have hsg : (sg neg).length ≤ 1 := by unfold sg; split <;> simp
  refine And.intro (fun hn => ?gneg) (fun hn => ?gpos)
  case' gneg =>
    have e0 : [45] = sg neg ++ zs 0 := by
      have : neg = true := hn
      rw [this]; rfl
  case' gpos =>
    have e0 : [] = sg neg ++ zs 0 := by
      have : neg = false := hn
      rw [this]; rfl
  all_goals refine ⟨{ i : Nat // i ≤ k }, fun i => ⟨129, [⟨1, [], .v (.int .u8 (n : Nat))⟩, ⟨5, [], .v (.int .i64 a)⟩, ⟨6, [], .v (.int .i64 e)⟩, ⟨10, [], .sl 1⟩, ⟨11, [], .v (.int .i64 (b : Nat))⟩, ⟨13, [], .v (.string (bs (sg neg ++ zs i.1)))⟩, ⟨14, [], .v (.int .u8 (i.1 : Nat))⟩], [errG tp p, owI ds], [], dropL nats 2⟩, fun i => k - i.1, ⟨[0, 1], ⟨0, Nat.zero_le _⟩, And.intro (And.intro rfl (And.intro rfl (And.intro rfl (And.intro rfl (And.intro rfl (And.intro (svS e0) (And.intro rfl trivial))))))) (And.intro rfl (And.intro rfl trivial))⟩, fun i => ?_⟩
  all_goals (
    obtain ⟨i, hi⟩ := i
    refine And.intro (show (8 : Int) ≠ 0 by decide) ?_
    refine And.intro (fun hlt => ?_) (fun hge => ?_)
    · have hlt : i < k := by
        have : ((i : Nat) : Int) < ((n : Nat) : Int).tmod 8 := of_decide_eq_true hlt
        omega
      refine And.intro ?_ ?_
      · show (((bs (sg neg ++ zs i)).size + (bs [48]).size : Nat) : Int) ≤ IntKind.i64.max
        rw [bs_size, bs_size, List.length_append, List.length_replicate]
        show _ ≤ (9223372036854775807 : Int)
        simp only [List.length_singleton]
        omega
      exact ⟨[0, 1], ⟨i + 1, hlt⟩, And.intro (And.intro rfl (And.intro rfl (And.intro rfl (And.intro rfl (And.intro rfl (And.intro (svB ((bs_append _ _).trans (congrArg bs (zsucc _ i)))) (And.intro (congrArg (fun z : Int => SV.v (Value.int IntKind.u8 z)) (u8s i (by omega))) trivial))))))) (And.intro rfl (And.intro rfl trivial)), by show k - (i + 1) < k - i; omega⟩
    have hi : i = k := by
      have : ¬ ((i : Nat) : Int) < ((n : Nat) : Int).tmod 8 := of_decide_eq_false hge
      omega
    subst hi
    obtain ⟨m, hm⟩ : ∃ m, m = ds.length - b := ⟨_, rfl⟩
    refine ⟨{ j : Nat // j ≤ ds.length }, fun j => ⟨129, [⟨1, [], .v (.int .u8 (n : Nat))⟩, ⟨5, [], .v (.int .i64 a)⟩, ⟨6, [], .v (.int .i64 e)⟩, ⟨10, [], .sl 1⟩, ⟨11, [], .v (.int .i64 (b : Nat))⟩, ⟨13, [], .v (.string (bs (sg neg ++ zs i ++ midF ds m j.1)))⟩, ⟨15, [], .v (.int .i64 (j.1 : Nat))⟩], [errG tp p, owI ds], [], dropL nats 2⟩, fun j => ds.length - j.1, ⟨[0, 1], ⟨0, Nat.zero_le _⟩, And.intro (And.intro rfl (And.intro rfl (And.intro rfl (And.intro rfl (And.intro rfl (And.intro (svS (by simp [midF])) (And.intro rfl trivial))))))) (And.intro rfl (And.intro rfl trivial))⟩, fun j => ?_⟩
    obtain ⟨j, hj⟩ := j
    refine And.intro (fun hlt => ?_) (fun hge => ?_)
    · have hlt : j < ds.length := by
        have : ((j : Nat) : Int) < ((ds.length : Nat) : Int) := of_decide_eq_true hlt
        omega
      have hml : (midF ds m j).length ≤ j + 1 := midF_len ds m j
      have hd : nth ds j < 10 := by
        unfold nth; rw [List.getD_eq_getElem?_getD, List.getElem?_eq_getElem hlt]; exact fd _ (List.getElem_mem _)
      have e1 : IntKind.i64.wrap (((nth ds j : Nat) : Int) + 1) = ((nth ds j + 1 : Nat) : Int) := by rw [IntWalk.i64_in _ ⟨by omega, by omega⟩]; omega
      have e2 : (bs [48, 49, 50, 51, 52, 53, 54, 55, 56, 57]).extract (((nth ds j : Nat) : Int)).toNat (IntKind.i64.wrap (((nth ds j : Nat) : Int) + 1)).toNat = bs [dch (nth ds j)] := by
        rw [e1, Int.toNat_natCast, Int.toNat_natCast]
        exact ba_ext (ten_fin ⟨nth ds j, hd⟩)
      have esub : IntKind.i64.wrap (((ds.length : Nat) : Int) - ((b : Nat) : Int)) = ((m : Nat) : Int) := by rw [IntWalk.i64_in _ ⟨by omega, by omega⟩]; omega
      refine And.intro (fun hdot => ?_) (fun hdot => ?_)
      all_goals first
        | (have hjm : j = m := by
            have : ((j : Nat) : Int) = IntKind.i64.wrap (((ds.length : Nat) : Int) - ((b : Nat) : Int)) := of_decide_eq_true hdot
            omega
           refine And.intro (by
            show (((bs (sg neg ++ zs i ++ midF ds m j)).size + (bs [46]).size : Nat) : Int) ≤ IntKind.i64.max
            rw [bs_size, bs_size, List.length_append, List.length_append, List.length_replicate]
            show _ ≤ (9223372036854775807 : Int)
            simp only [List.length_singleton]
            omega) ?_
           obtain ⟨T, hT⟩ : ∃ T, T = sg neg ++ zs i ++ midF ds m j ++ [46] := ⟨_, rfl⟩
           have eT : bs (sg neg ++ zs i ++ midF ds m j) ++ bs [46] = bs T := by rw [bs_append, hT]
           have eN : T ++ [dch (nth ds j)] = sg neg ++ zs i ++ midF ds m (j + 1) := by rw [hT, midF_dot ds hlt hjm]; simp
           have hTl : T.length ≤ 200 := by rw [hT]; simp only [List.length_append, List.length_replicate, List.length_singleton]; omega)
        | (have hjm : j ≠ m := by
            have : ¬ ((j : Nat) : Int) = IntKind.i64.wrap (((ds.length : Nat) : Int) - ((b : Nat) : Int)) := of_decide_eq_false hdot
            omega
           obtain ⟨T, hT⟩ : ∃ T, T = sg neg ++ zs i ++ midF ds m j := ⟨_, rfl⟩
           have eT : bs (sg neg ++ zs i ++ midF ds m j) = bs T := by rw [hT]
           have eN : T ++ [dch (nth ds j)] = sg neg ++ zs i ++ midF ds m (j + 1) := by rw [hT, midF_no ds hlt hjm]; simp
           have hTl : T.length ≤ 200 := by rw [hT]; simp only [List.length_append, List.length_replicate]; omega)
      all_goals (
        refine Or.inl ⟨by kernel_rfl, ?_⟩
        refine And.intro ⟨(show (0 : Int) ≤ ((j : Nat) : Int) by omega), (show ((j : Nat) : Int) < ((ds.length : Nat) : Int) by omega)⟩ ?_
        refine And.intro ⟨(show (0 : Int) ≤ ((j : Nat) : Int) by omega), (show ((j : Nat) : Int) < ((ds.length : Nat) : Int) by omega)⟩ ?_
        refine And.intro ⟨(show (0 : Int) ≤ ((nth ds j : Nat) : Int) by omega), (show ((nth ds j : Nat) : Int) ≤ IntKind.i64.wrap (((nth ds j : Nat) : Int) + 1) by rw [e1]; omega), (show IntKind.i64.wrap (((nth ds j : Nat) : Int) + 1) ≤ 10 by rw [e1]; omega)⟩ ?_
        refine And.intro ?_ ?_
        · refine Int.le_trans (b := (((bs T).size + (bs [dch (nth ds j)]).size : Nat) : Int)) (Int.le_of_eq ?_) ?_
          · exact congrArg (fun x : Nat => (x : Int)) (congr (congrArg (fun x y : Nat => x + y) (congrArg ByteArray.size eT)) (congrArg ByteArray.size e2))
          · rw [bs_size, bs_size]
            show _ ≤ (9223372036854775807 : Int)
            simp only [List.length_singleton]
            omega
        · exact ⟨[0, 1], ⟨j + 1, hlt⟩, And.intro (And.intro rfl (And.intro rfl (And.intro rfl (And.intro rfl (And.intro rfl (And.intro (svB ((congr (congrArg (fun x y : ByteArray => x ++ y) eT) e2).trans ((bs_append _ _).trans (congrArg bs eN)))) (And.intro (svI (i64_succ j (by omega))) trivial))))))) (And.intro rfl (And.intro rfl trivial)), by show ds.length - (j + 1) < ds.length - j; omega⟩)
    have hj : j = ds.length := by
      have : ¬ ((j : Nat) : Int) < ((ds.length : Nat) : Int) := of_decide_eq_false hge
      omega
    subst hj
    refine And.intro (fun _ => show (8 : Int) ≠ 0 by decide) ?_
    have hcon : (decide (((b : Nat) : Int) = 0) && decide (((n : Nat) : Int).tmod 8 > 0)) = decide (b = 0 ∧ 0 < i) := by
      rw [erem, Bool.decide_and]
      congr 1
      · rw [decide_eq_decide]; omega
      · rw [decide_eq_decide]; omega
    have hml2 : (midF ds m ds.length).length ≤ ds.length + 1 := midF_len ds m ds.length
    refine And.intro (fun hdot => ?_) (fun hdot => ?_)
    all_goals first
      | (have hd2 : b = 0 ∧ 0 < i := of_decide_eq_true (hcon.symm.trans hdot)
         refine And.intro (by
          show (((bs (sg neg ++ zs i ++ midF ds m ds.length)).size + (bs [46]).size : Nat) : Int) ≤ IntKind.i64.max
          rw [bs_size, bs_size, List.length_append, List.length_append, List.length_replicate]
          show _ ≤ (9223372036854775807 : Int)
          simp only [List.length_singleton]
          omega) ?_
         obtain ⟨T, hT⟩ : ∃ T, T = sg neg ++ zs i ++ midF ds m ds.length ++ (if b = 0 ∧ 0 < i then [46] else []) := ⟨_, rfl⟩
         have eT : bs (sg neg ++ zs i ++ midF ds m ds.length) ++ bs [46] = bs (T ++ zs 0) := by rw [bs_append, hT, if_pos hd2]; simp [zs])
      | (have hd2 : ¬ (b = 0 ∧ 0 < i) := of_decide_eq_false (hcon.symm.trans hdot)
         obtain ⟨T, hT⟩ : ∃ T, T = sg neg ++ zs i ++ midF ds m ds.length ++ (if b = 0 ∧ 0 < i then [46] else []) := ⟨_, rfl⟩
         have eT : bs (sg neg ++ zs i ++ midF ds m ds.length) = bs (T ++ zs 0) := by rw [hT, if_neg hd2]; simp [zs])
    all_goals (
      have hTl : T.length ≤ 200 := by
        rw [hT]
        simp only [List.length_append, List.length_replicate]
        split <;> simp <;> omega
      refine ⟨{ j : Nat // j ≤ i }, fun j => ⟨129, [⟨1, [], .v (.int .u8 (n : Nat))⟩, ⟨5, [], .v (.int .i64 a)⟩, ⟨6, [], .v (.int .i64 e)⟩, ⟨13, [], .v (.string (bs (T ++ zs j.1)))⟩, ⟨16, [], .v (.int .u8 (j.1 : Nat))⟩], [errG tp p, owI ds], [], dropL nats 2⟩, fun j => i - j.1, ⟨[0, 1], ⟨0, Nat.zero_le _⟩, And.intro (And.intro rfl (And.intro rfl (And.intro rfl (And.intro (svB eT) (And.intro rfl trivial))))) (And.intro rfl (And.intro rfl trivial))⟩, fun j => ?_⟩
      obtain ⟨j, hj⟩ := j
      refine And.intro (show (8 : Int) ≠ 0 by decide) ?_
      refine And.intro (fun hlt => ?_) (fun hge => ?_)
      · have hlt : j < i := by
          have : ((j : Nat) : Int) < ((n : Nat) : Int).tmod 8 := of_decide_eq_true hlt
          omega
        refine And.intro ?_ ?_
        · show (((bs (T ++ zs j)).size + (bs [48]).size : Nat) : Int) ≤ IntKind.i64.max
          rw [bs_size, bs_size, List.length_append, List.length_replicate]
          show _ ≤ (9223372036854775807 : Int)
          simp only [List.length_singleton]
          omega
        exact ⟨[0, 1], ⟨j + 1, hlt⟩, And.intro (And.intro rfl (And.intro rfl (And.intro rfl (And.intro (svB ((bs_append _ _).trans (congrArg bs (zsucc _ j)))) (And.intro (congrArg (fun z : Int => SV.v (Value.int IntKind.u8 z)) (u8s j (by omega))) trivial))))) (And.intro rfl (And.intro rfl trivial)), by show i - (j + 1) < i - j; omega⟩
      have hj : j = i := by
        have : ¬ ((j : Nat) : Int) < ((n : Nat) : Int).tmod 8 := of_decide_eq_false hge
        omega
      subst hj
      have etext : T ++ zs j = textF neg ds b j := by rw [hT, hm]; rfl
      refine Or.inl ⟨.tuple #[.int .i64 a, .int .i64 e], fun ρ S w' hm' => by
        have h := read_g (textF neg ds b j) (by omega) w' (errOf (tp := tp) (p := p) hm')
        rw [hread, ← etext] at h
        exact h, ?_⟩
      refine Or.inl ⟨.bool true, fun _ ρ S w' hm' => works_c w', ?_⟩
      refine fun ρ S w' hi => ⟨congrArg (fun b : Bool => Ending.returned (.bool b)) ?_, hi.below⟩
      show ((decide (a = a) && decide (e = e)) && true) = true
      simp))
end Go.Proofs.YtfjkajlkehjnnaaGreatDoor
