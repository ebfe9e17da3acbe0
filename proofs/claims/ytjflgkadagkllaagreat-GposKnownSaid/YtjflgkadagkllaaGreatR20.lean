/- The reference's Features. -/
import Derived.Test.YtjflgkadagkllaaGreatR20a
set_option maxRecDepth 100000
set_option linter.unusedVariables false
namespace Go.Proofs.YtjflgkadagkllaaGreat
open Go Go.Eng Go.RowKit
theorem reff_c (b : List Int) (a L : Int) (hB : Byt b) (hb : b.length <= 3000) (ha : IntKind.i64.wrap a = a) (hsel : ∀ row : List Int, (∀ x ∈ row, (0 <= x /\ x <= 65535) /\ x < L) -> ksF row = sel row (selV row L)) (v : Value) (w : World) (S : Nat -> Prop) (hS : ∀ b, S b -> b < w.heap.size) (hv : DRep S w (.sl Int inferInstance 1 bE b) v) :
 Calls Tryz.prog 59 #[v, .int .i64 a, .int .i64 L] w (FeatR (featX b a L) S w) := by
 refine calls_exec2 (cf := cf) cfok rfl rfl (fn := Tryz.f59) Tryz.func59 rfl [.sl 0, .v (.int .i64 a), .v (.int .i64 L)] [.rd Int inferInstance 1 bE b] (ρ := fun _ => v) (· < w.heap.size) S rfl rfl rfl (by simp [svOkL, svOk]) rfl (memRd hS ⟨hv, trivial⟩) (fun b hb => ⟨hb, rd_own rfl b⟩) ?_
 have bad : featX b a L = none -> ∀ w', Below w.heap.size w w' -> FeatR (featX b a L) S w (.returned (.tuple #[.slice none 0 0, .int .i64 50])) w' := fun h w' hb => by
  rw [h]
  exact ⟨[.slice none 0 0, .int .i64 50], rfl, hb, ⟨DRep.sl none 0 0 0 (fun _ _ => undef) (Nat.le_refl _) (fun h => absurd rfl h) (fun i j d hi => absurd hi (Nat.not_lt_zero _)) (fun i j d hi => absurd hi (Nat.not_lt_zero _)), rfl, trivial⟩⟩
 have hwr := wF_range hB a
 refine Or.inl ⟨_, fun ρ S w hm => w_c b a _ rfl hB (by omega) ha _ w (hm.rd 0 rfl rfl), ?_⟩
 refine Or.inl ⟨_, fun ρ S w hm => all_c b a 2 (by omega) ha _ w (hm.rd 0 rfl rfl), ?_⟩
 have e6 : IntKind.i64.wrap (2 + IntKind.i64.wrap (6 * wF b a)) = 2 + 6 * wF b a := by rw [i64_id (6 * wF b a) (by omega) (by omega)]; exact i64_id _ (by omega) (by omega)
 refine Or.inl ⟨.bool (roomF b a (2 + 6 * wF b a)), fun _ ρ S w hm => by
  show Calls _ 71 #[_, _, .int .i64 (IntKind.i64.wrap (2 + IntKind.i64.wrap (6 * wF b a)))] _ _
  rw [e6]
  exact all_c b a _ (by omega) ha _ w (hm.rd 0 rfl rfl), ?_⟩
 refine aI (fun h => ?_) (fun h => ?_)
 · replace h : ((!roomF b a 2 || decide (wF b a > 512)) || !roomF b a (2 + 6 * wF b a)) = true := h
   refine fun ρ S' w' hi => bad ?_ w' hi.below
   unfold featX
   cases h1 : outR b a 2 with
   | true => rfl
   | false =>
    obtain ⟨h0, _, h2⟩ := outR_iff.1 h1
    have hN : wF b a = ((fN b a : Nat) : Int) := by
     have := wF_at (b := b) (a := a) (p := 0) h0 (by omega)
     simp only [Int.natCast_zero, Int.add_zero] at this
     have hr := w2_range (hB.drop a.toNat) 0
     rw [this]; unfold fN; omega
    rw [if_neg (by decide), if_pos ?_]
    unfold roomF at h
    rw [h1, hN] at h
    rw [Bool.or_eq_true, Bool.or_eq_true, Bool.not_not] at h
    rcases h with (h | h) | h
    · cases h
    · left; have := of_decide_eq_true h; omega
    · right
      rw [Bool.not_not] at h
      cases h5 : outR b (a + 2) (6 * (fN b a : Int)) with
      | true => rfl
      | false =>
       obtain ⟨_, _, h6⟩ := outR_iff.1 h5
       rw [outR_iff.2 ⟨h0, by omega, by omega⟩] at h
       cases h
 replace h : ((!roomF b a 2 || decide (wF b a > 512)) || !roomF b a (2 + 6 * wF b a)) = false := h
 rw [Bool.or_eq_false_iff, Bool.or_eq_false_iff] at h
 obtain ⟨⟨h1, h2⟩, h3⟩ := h
 unfold roomF at h1 h3
 rw [Bool.not_not] at h1 h3
 obtain ⟨h0, _, h1'⟩ := outR_iff.1 h1
 have hN : wF b a = ((fN b a : Nat) : Int) := by
  have := wF_at (b := b) (a := a) (p := 0) h0 (by omega)
  simp only [Int.natCast_zero, Int.add_zero] at this
  have hr := w2_range (hB.drop a.toNat) 0
  rw [this]; unfold fN; omega
 have h2 := of_decide_eq_false h2
 rw [hN] at h2 h3
 obtain ⟨_, _, hroom⟩ := outR_iff.1 h3
 have hX : featX b a L = if ((List.range (fN b a)).all fun i => okT b (fT b a i) L) = true then some ((List.range (fN b a)).map (fAt b a)) else none := by
  unfold featX
  rw [if_neg (by rw [h1]; decide), if_neg]
  rintro (h | h)
  · omega
  · rw [outR_iff.2 ⟨by omega, by omega, by omega⟩] at h
    cases h
 have h512 : fN b a <= 512 := by omega
 clear h2 h3 hwr
 generalize hNN : fN b a = N at *
 have badI : ∀ i, i < N -> okT b (fT b a i) L = false -> featX b a L = none := fun i hi hf => by
  rw [hX, if_neg (fun hall => by
   have := List.all_eq_true.1 hall i (List.mem_range.2 hi)
   rw [hf] at this
   cases this)]
 refine ⟨{ i : Nat // i <= N /\ ∀ j, j < i -> okT b (fT b a j) L = true }, fun i => ⟨155, [⟨0, [], .sl 0⟩, ⟨1, [], .v (.int .i64 a)⟩, ⟨2, [], .v (.int .i64 L)⟩, ⟨8, [], .v (.int .i64 (N : Nat))⟩, ⟨9, [], .sl 1⟩, ⟨10, [], .v (.int .i64 (i.1 : Nat))⟩], [.rd Int inferInstance 1 bE b, owF ((List.range i.1).map (fAt b a))], [], dropL nats 2⟩, fun i => N - i.1, ⟨[0, 1000], ⟨0, Nat.zero_le _, fun j hj => absurd hj (Nat.not_lt_zero _)⟩, ?_⟩, fun i => ?_⟩
 · exact aI (aI rfl (aI rfl (aI rfl (aI (svI hN) (aI rfl (aI rfl trivial)))))) (aI rfl (aI rfl trivial))
 obtain ⟨i, hi, hall⟩ := i
 refine aI (fun hlt => ?_) (fun hge => ?_)
 rotate_left
 · have hge : i = N := by
    have : ¬ ((i : Nat) : Int) < ((N : Nat) : Int) := of_decide_eq_false hge
    omega
   subst hge
   rw [if_pos (List.all_eq_true.2 fun j hj => hall j (List.mem_range.1 hj))] at hX
   rw [hX]
   refine fun ρ S' w' hi => ⟨[den ρ (.sl 1), .int .i64 0], rfl, hi.below, ⟨?_, rfl, trivial⟩⟩
   exact hi.rep 40 (.sl 1) (.sl Feat inferInstance 5 fE _) rfl rfl
 have hlt : i < N := by
  have : ((i : Nat) : Int) < ((N : Nat) : Int) := of_decide_eq_true hlt
  omega
 have ha2 : IntKind.i64.wrap (a + 2) = a + 2 := i64_id _ (by omega) (by omega)
 have eP : IntKind.i64.wrap (IntKind.i64.wrap (a + 2) + IntKind.i64.wrap (6 * (i : Int))) = ((a.toNat + (6 * i + 2) : Nat) : Int) := by
  rw [ha2, i64_id (6 * (i : Int)) (by omega) (by omega), i64_id _ (by omega) (by omega)]; omega
 have eP1 : ∀ c : Nat, c <= 4 -> IntKind.i64.wrap (IntKind.i64.wrap (IntKind.i64.wrap (a + 2) + IntKind.i64.wrap (6 * (i : Int))) + (c : Int)) = ((a.toNat + (6 * i + (2 + c)) : Nat) : Int) := fun c hc => by
  rw [eP, i64_id _ (by omega) (by omega)]; omega
 have inP : ∀ (x : Int) (q : Nat), x = ((a.toNat + q : Nat) : Int) -> q < 6 * i + 8 -> 0 <= x /\ x < ((b.length : Nat) : Int) := fun x q hx hq => by omega
 refine Or.inr (Or.inr (Or.inl ⟨[0, 1, 2, 3, 4, 5, 6, 7, 8, 9, 10, 11, 12, 13, 14, 15, 16, 17, 18, 19, 20, 21], [21], [22], by kernel_rfl, ?_⟩))
 refine aI (inP _ _ eP (by omega)) ?_
 refine aI (inP _ _ (eP1 1 (by decide)) (by omega)) ?_
 refine aI (inP _ _ (eP1 2 (by decide)) (by omega)) ?_
 refine aI (inP _ _ (eP1 3 (by decide)) (by omega)) ?_
 have tg : ∀ (x : Int) (q : Nat), x = ((a.toNat + q : Nat) : Int) -> nth b x.toNat = nth (b.drop a.toNat) q := fun x q hx => by rw [hx, Int.toNat_natCast, nth_drop]
 have hwt := w2_range (hB.drop a.toNat) (6 * i + 6)
 have eW : ∀ q : Int, q = a + ((6 * i + 6 : Nat) : Int) -> wF b q = w2 (b.drop a.toNat) (6 * i + 6) := fun q hq => by rw [hq, wF_at h0 (by omega)]
 have eP4 : IntKind.i64.wrap (IntKind.i64.wrap (IntKind.i64.wrap (a + 2) + IntKind.i64.wrap (6 * (i : Int))) + 4) = a + ((6 * i + 6 : Nat) : Int) := (eP1 4 (by decide)).trans (by omega)
 refine Or.inl ⟨.int .i64 (w2 (b.drop a.toNat) (6 * i + 6)), fun ρ S w hm => by
  have := w_c b (a + ((6 * i + 6 : Nat) : Int)) _ eP4 hB (by omega) (i64_id _ (by omega) (by omega)) _ w (hm.rd 0 rfl rfl)
  rw [eW _ rfl] at this
  exact this, ?_⟩
 have eT : IntKind.i64.wrap (a + w2 (b.drop a.toNat) (6 * i + 6)) = fT b a i := by
  rw [i64_id _ (by omega) (by omega)]; rfl
 have ht0 : 0 <= fT b a i /\ fT b a i <= 100000 := by unfold fT; omega
 generalize hTT : fT b a i = t at *
 have htw : IntKind.i64.wrap t = t := i64_id _ (by omega) (by omega)
 have et2 : IntKind.i64.wrap (IntKind.i64.wrap (a + w2 (b.drop a.toNat) (6 * i + 6)) + 2) = t + 2 := by rw [eT]; exact i64_id _ (by omega) (by omega)
 have hkr := wF_range hB (t + 2)
 refine Or.inl ⟨_, fun ρ S w hm => w_c b (t + 2) _ et2 hB (by omega) (i64_id _ (by omega) (by omega)) _ w (hm.rd 0 rfl rfl), ?_⟩
 refine Or.inl ⟨.bool (roomF b t 4), fun ρ S w hm => by
  show Calls _ 71 #[_, .int .i64 (IntKind.i64.wrap (a + w2 (b.drop a.toNat) (6 * i + 6))), _] _ _
  rw [eT]
  exact all_c b t 4 (by omega) htw _ w (hm.rd 0 rfl rfl), ?_⟩
 refine Or.inl ⟨_, fun _ ρ S w hm => w_c b t _ eT hB (by omega) htw _ w (hm.rd 0 rfl rfl), ?_⟩
 have e4k : IntKind.i64.wrap (4 + IntKind.i64.wrap (2 * wF b (t + 2))) = 4 + 2 * wF b (t + 2) := by rw [i64_id (2 * wF b (t + 2)) (by omega) (by omega)]; exact i64_id _ (by omega) (by omega)
 refine Or.inl ⟨.bool (roomF b t (4 + 2 * wF b (t + 2))), fun _ ρ S w hm => by
  show Calls _ 71 #[_, .int .i64 (IntKind.i64.wrap (a + w2 (b.drop a.toNat) (6 * i + 6))), .int .i64 (IntKind.i64.wrap (4 + IntKind.i64.wrap (2 * wF b (t + 2))))] _ _
  rw [eT, e4k]
  exact all_c b t _ (by omega) htw _ w (hm.rd 0 rfl rfl), ?_⟩
 have inT : outR b t 4 = false -> wF b (t + 2) = w2 (b.drop t.toNat) 2 /\ wF b t = w2 (b.drop t.toNat) 0 := fun h => by
  obtain ⟨_, _, h⟩ := outR_iff.1 h
  have h1 := wF_at (b := b) (a := t) (p := 2) ht0.1 (by omega)
  have h2 := wF_at (b := b) (a := t) (p := 0) ht0.1 (by omega)
  simp only [Int.natCast_zero, Int.add_zero] at h2
  exact ⟨h1, h2⟩
 refine aI (fun h4 => ?_) (fun h4 => ?_)
 · refine fun ρ S' w' hi => bad (badI i hlt ?_) w' hi.below
   replace h4 : ((!roomF b t 4 || !decide (wF b t = 0)) || !roomF b t (4 + 2 * wF b (t + 2))) = true := h4
   rw [hTT]
   unfold okT
   unfold roomF at h4
   cases h1 : outR b t 4 with
   | true => rfl
   | false =>
    obtain ⟨e1, e2⟩ := inT h1
    rw [h1, e1, e2] at h4
    cases h2 : decide (w2 (b.drop t.toNat) 0 = 0) with
    | false => rfl
    | true =>
     rw [h2] at h4
     have h5 : outR b t (4 + 2 * w2 (b.drop t.toNat) 2) = true := by simpa using h4
     cases h3 : outR b (t + 4) (2 * w2 (b.drop t.toNat) 2) with
     | true => rfl
     | false =>
      obtain ⟨g1, g2, g3⟩ := outR_iff.1 h3
      rw [outR_iff.2 ⟨ht0.1, by omega, by omega⟩] at h5
      cases h5
 replace h4 : ((!roomF b t 4 || !decide (wF b t = 0)) || !roomF b t (4 + 2 * wF b (t + 2))) = false := h4
 rw [Bool.or_eq_false_iff, Bool.or_eq_false_iff] at h4
 obtain ⟨⟨h41, h42⟩, h43⟩ := h4
 have hout : outR b t 4 = false := by unfold roomF at h41; simpa using h41
 obtain ⟨ek, ew0⟩ := inT hout
 have hw0 : w2 (b.drop t.toNat) 0 = 0 := by rw [ew0] at h42; simpa using h42
 have hr4 : t + 4 <= b.length := (outR_iff.1 hout).2.2
 have hwk := w2_range (hB.drop t.toNat) 2
 have hrk : t + (4 + 2 * w2 (b.drop t.toNat) 2) <= b.length := by
  unfold roomF at h43
  rw [ek] at h43
  have : outR b t (4 + 2 * w2 (b.drop t.toNat) 2) = false := by simpa using h43
  exact (outR_iff.1 this).2.2
 have hok : okT b t L = ((rowW b t).all fun x => decide (x < L)) := by
  unfold okT
  rw [hout, hw0, outR_iff.2 ⟨by omega, by omega, by omega⟩]
  rfl
 have hfat : fAt b a i = ⟨nth (b.drop a.toNat) (6 * i + 2), nth (b.drop a.toNat) (6 * i + 3), nth (b.drop a.toNat) (6 * i + 4), nth (b.drop a.toNat) (6 * i + 5), ksF (rowW b t)⟩ := by unfold fAt; rw [hTT]
 have hrn : ∀ j, j < (rowW b t).length -> wF b (t + ((4 + 2 * j : Nat) : Int)) = nth (rowW b t) j := fun j hj => by
  rw [rowW_nth b t j hj]
  rw [rowW_len] at hj
  exact wF_at ht0.1 (by omega)
 have hkl : wF b (t + 2) = (((rowW b t).length : Nat) : Int) := by rw [ek, rowW_len]; omega
 have hrl : (rowW b t).length <= 65535 := by rw [rowW_len]; omega
 have hrb : ∀ j, j < (rowW b t).length -> t + ((4 + 2 * j : Nat) : Int) + 2 <= b.length := fun j hj => by
  rw [rowW_len] at hj
  omega
 have hrr := rowW_range hB t
 have hsr : ∀ (hx : ∀ q, q < (rowW b t).length -> nth (rowW b t) q < L), ksF (rowW b t) = sel (rowW b t) (selV (rowW b t) L) := fun hx => hsel _ fun x hm => by
  obtain ⟨q, hq, rfl⟩ := List.getElem_of_mem hm
  have h1 := hrr q hq
  have h2 := hx q hq
  rw [nthZ hq] at h1 h2
  exact ⟨h1, h2⟩
 generalize rowW b t = row at *
 have eA : ∀ j : Nat, j < row.length -> IntKind.i64.wrap (IntKind.i64.wrap (t + 4) + IntKind.i64.wrap (2 * (j : Int))) = t + ((4 + 2 * j : Nat) : Int) := fun j hj => by
  rw [i64_id (t + 4) (by omega) (by omega), i64_id (2 * (j : Int)) (by omega) (by omega), i64_id _ (by omega) (by omega)]; omega
 have wJ : ∀ (j : Nat) (q : Int) (v : Value) (w : World), j < row.length -> q = t + ((4 + 2 * j : Nat) : Int) -> Rd w v 1 bE b -> Calls Tryz.prog 70 #[v, .int .i64 q] w fun e w' => e = .returned (.int .i64 (nth row j)) /\ Below w.heap.size w w' := fun j q v w hj hq hv => by
  have hb' := hrb j hj
  have := w_c b (t + ((4 + 2 * j : Nat) : Int)) q hq hB (by omega) (i64_id _ (by omega) (by omega)) v w hv
  rw [hrn j hj] at this
  exact this
 refine ⟨{ v : Nat // v <= selV row L }, fun v => ⟨155, [⟨0, [], .sl 0⟩, ⟨1, [], .v (.int .i64 a)⟩, ⟨2, [], .v (.int .i64 L)⟩, ⟨8, [], .v (.int .i64 (N : Nat))⟩, ⟨9, [], .sl 1⟩, ⟨10, [], .v (.int .i64 (i : Nat))⟩, ⟨12, [], .bx 2 0⟩, ⟨13, [], .v (.int .i64 t)⟩, ⟨14, [], .v (.int .i64 (row.length : Nat))⟩, ⟨15, [], .v (.int .i64 (v.1 : Nat))⟩],
  [.rd Int inferInstance 1 bE b, owF ((List.range i).map (fAt b a)), .bx 57 [.v (.int .u8 (nth (b.drop a.toNat) (6 * i + 2))), .v (.int .u8 (nth (b.drop a.toNat) (6 * i + 3))), .v (.int .u8 (nth (b.drop a.toNat) (6 * i + 4))), .v (.int .u8 (nth (b.drop a.toNat) (6 * i + 5))), .sl 3], owZ (sel row v.1)], [], dropL nats 4⟩, fun v => selV row L - v.1, ⟨[0, 1, 2, 1000], ⟨0, Nat.zero_le _⟩, ?_⟩, fun v => ?_⟩
 · refine aI (aI rfl (aI rfl (aI rfl (aI rfl (aI rfl (aI rfl (aI rfl (aI (svI eT) (aI (svI hkl) (aI rfl trivial)))))))))) (aI rfl (aI rfl (aI (aI rfl ?_) (aI rfl trivial))))
   exact cells5 (tg _ _ eP) (tg _ _ (eP1 1 (by decide))) (tg _ _ (eP1 2 (by decide))) (tg _ _ (eP1 3 (by decide)))
 obtain ⟨v, hvV⟩ := v
 have hvc : ((decide ((v : Int) < 65536) && decide (((row.length : Nat) : Int) > 0)) && decide ((v : Int) < L)) = decide (v < selV row L) := by
  rw [<- Bool.decide_and, <- Bool.decide_and, decide_eq_decide]
  unfold selV
  by_cases hr0 : row = []
  · rw [if_pos hr0, hr0]; simp
  · rw [if_neg hr0]
    have := List.length_pos_iff.2 hr0
    omega
 refine aI (fun hvl => ?_) (fun hvg => ?_)
 · have hvl : v < selV row L := of_decide_eq_true (hvc.symm.trans hvl)
   have hv6 : v < 65536 := by unfold selV at hvl; split at hvl <;> omega
   refine ⟨{ j : Nat // j <= row.length }, fun j => ⟨155, [⟨0, [], .sl 0⟩, ⟨1, [], .v (.int .i64 a)⟩, ⟨2, [], .v (.int .i64 L)⟩, ⟨8, [], .v (.int .i64 (N : Nat))⟩, ⟨9, [], .sl 1⟩, ⟨10, [], .v (.int .i64 (i : Nat))⟩, ⟨12, [], .bx 2 0⟩, ⟨13, [], .v (.int .i64 t)⟩, ⟨14, [], .v (.int .i64 (row.length : Nat))⟩, ⟨15, [], .v (.int .i64 (v : Nat))⟩, ⟨16, [], .v (.bool ((row.take j.1).contains (v : Int)))⟩, ⟨17, [], .v (.int .i64 (j.1 : Nat))⟩],
    [.rd Int inferInstance 1 bE b, owF ((List.range i).map (fAt b a)), .bx 57 [.v (.int .u8 (nth (b.drop a.toNat) (6 * i + 2))), .v (.int .u8 (nth (b.drop a.toNat) (6 * i + 3))), .v (.int .u8 (nth (b.drop a.toNat) (6 * i + 4))), .v (.int .u8 (nth (b.drop a.toNat) (6 * i + 5))), .sl 3], owZ (sel row v)], [], dropL nats 4⟩, fun j => row.length - j.1, ⟨[0, 1, 2, 3], ⟨0, Nat.zero_le _⟩, ?_⟩, fun j => ?_⟩
   · exact aI (aI rfl (aI rfl (aI rfl (aI rfl (aI rfl (aI rfl (aI rfl (aI rfl (aI rfl (aI rfl (aI rfl (aI rfl trivial)))))))))))) (aI rfl (aI rfl (aI (aI rfl rfl) (aI rfl trivial))))
   obtain ⟨j, hj⟩ := j
   refine aI (fun hjl => ?_) (fun hjg => ?_)
   · have hjl : j < row.length := by
      have : ((j : Nat) : Int) < ((row.length : Nat) : Int) := of_decide_eq_true hjl
      omega
     refine Or.inl ⟨.int .i64 (nth row j), fun _ ρ S w hm => by
      show Calls _ 70 #[_, .int .i64 (IntKind.i64.wrap (IntKind.i64.wrap (t + 4) + IntKind.i64.wrap (2 * (j : Int))))] _ _
      exact wJ j _ _ w hjl (eA j hjl) (hm.rd 0 rfl rfl), ?_⟩
     exact ⟨[0, 1, 2, 3], ⟨j + 1, hjl⟩, aI (aI rfl (aI rfl (aI rfl (aI rfl (aI rfl (aI rfl (aI rfl (aI rfl (aI rfl (aI rfl (aI (congrArg (fun x => SV.v (Value.bool x)) (take_contains row j v hjl).symm) (aI (svI (i64_succ j (by omega))) trivial)))))))))))) (aI rfl (aI rfl (aI (aI rfl rfl) (aI rfl trivial)))), by show row.length - (j + 1) < row.length - j; omega⟩
   have hjg : j = row.length := by
    have : ¬ ((j : Nat) : Int) < ((row.length : Nat) : Int) := of_decide_eq_false hjg
    omega
   subst hjg
   have hsl := sel_len row v
   refine aI (fun hh => ?_) (fun hh => ?_)
   · have hh : (row.take row.length).contains (v : Int) = true := hh
     rw [List.take_length] at hh
     refine ⟨[(v : Int)], ⟨rfl, rfl, by simp⟩, by show ((sel row v).length + 1) * 8 <= _; omega, ?_⟩
     exact ⟨[0, 1, 2, 5], ⟨v + 1, hvl⟩, aI (aI rfl (aI rfl (aI rfl (aI rfl (aI rfl (aI rfl (aI rfl (aI rfl (aI rfl (aI (svI (i64_succ v (by omega))) trivial)))))))))) (aI rfl (aI rfl (aI (aI rfl rfl) (aI (owZe (by rw [sel_succ, if_pos hh])) trivial)))), by show selV row L - (v + 1) < selV row L - v; omega⟩
   · have hh : (row.take row.length).contains (v : Int) = false := hh
     rw [List.take_length] at hh
     exact ⟨[0, 1, 2, 3], ⟨v + 1, hvl⟩, aI (aI rfl (aI rfl (aI rfl (aI rfl (aI rfl (aI rfl (aI rfl (aI rfl (aI rfl (aI (svI (i64_succ v (by omega))) trivial)))))))))) (aI rfl (aI rfl (aI (aI rfl rfl) (aI (owZe (by rw [sel_succ, if_neg (by rw [hh]; decide), List.append_nil])) trivial)))), by show selV row L - (v + 1) < selV row L - v; omega⟩
 have hvg : v = selV row L := by
  have := of_decide_eq_false (hvc.symm.trans hvg)
  omega
 subst hvg
 refine ⟨{ j : Nat // j <= row.length /\ ∀ q, q < j -> nth row q < L }, fun j => ⟨155, [⟨0, [], .sl 0⟩, ⟨1, [], .v (.int .i64 a)⟩, ⟨2, [], .v (.int .i64 L)⟩, ⟨8, [], .v (.int .i64 (N : Nat))⟩, ⟨9, [], .sl 1⟩, ⟨10, [], .v (.int .i64 (i : Nat))⟩, ⟨12, [], .bx 2 0⟩, ⟨13, [], .v (.int .i64 t)⟩, ⟨14, [], .v (.int .i64 (row.length : Nat))⟩, ⟨18, [], .v (.int .i64 (j.1 : Nat))⟩],
  [.rd Int inferInstance 1 bE b, owF ((List.range i).map (fAt b a)), .bx 57 [.v (.int .u8 (nth (b.drop a.toNat) (6 * i + 2))), .v (.int .u8 (nth (b.drop a.toNat) (6 * i + 3))), .v (.int .u8 (nth (b.drop a.toNat) (6 * i + 4))), .v (.int .u8 (nth (b.drop a.toNat) (6 * i + 5))), .sl 3], owZ (sel row (selV row L))], [], dropL nats 4⟩, fun j => row.length - j.1, ⟨[0, 1, 2, 3], ⟨0, Nat.zero_le _, fun q hq => absurd hq (Nat.not_lt_zero _)⟩, ?_⟩, fun j => ?_⟩
 · exact aI (aI rfl (aI rfl (aI rfl (aI rfl (aI rfl (aI rfl (aI rfl (aI rfl (aI rfl (aI rfl trivial)))))))))) (aI rfl (aI rfl (aI (aI rfl rfl) (aI rfl trivial))))
 obtain ⟨j, hj, hjall⟩ := j
 refine aI (fun hjl => ?_) (fun hjg => ?_)
 · have hjl : j < row.length := by
    have : ((j : Nat) : Int) < ((row.length : Nat) : Int) := of_decide_eq_true hjl
    omega
   refine Or.inl ⟨.int .i64 (nth row j), fun ρ S w hm => by
    show Calls _ 70 #[_, .int .i64 (IntKind.i64.wrap (IntKind.i64.wrap (t + 4) + IntKind.i64.wrap (2 * (j : Int))))] _ _
    exact wJ j _ _ w hjl (eA j hjl) (hm.rd 0 rfl rfl), ?_⟩
   refine aI (fun hb2 => ?_) (fun hb2 => ?_)
   · have hb2 : nth row j >= L := of_decide_eq_true hb2
     refine fun ρ S' w' hi => bad (badI i hlt ?_) w' hi.below
     rw [hTT, hok, Bool.eq_false_iff]
     intro hh
     have := of_decide_eq_true (List.all_eq_true.1 hh (nth row j) (by rw [nthZ hjl]; exact List.getElem_mem _))
     omega
   · have hb2 : ¬ nth row j >= L := of_decide_eq_false hb2
     refine ⟨[0, 1, 2, 3], ⟨j + 1, hjl, fun q hq => ?_⟩, aI (aI rfl (aI rfl (aI rfl (aI rfl (aI rfl (aI rfl (aI rfl (aI rfl (aI rfl (aI (svI (i64_succ j (by omega))) trivial)))))))))) (aI rfl (aI rfl (aI (aI rfl rfl) (aI rfl trivial)))), by show row.length - (j + 1) < row.length - j; omega⟩
     by_cases e : q = j
     · subst e; omega
     · exact hjall q (by omega)
 have hjg : j = row.length := by
  have : ¬ ((j : Nat) : Int) < ((row.length : Nat) : Int) := of_decide_eq_false hjg
  omega
 subst hjg
 have hokT : okT b t L = true := by
  rw [hok]
  refine List.all_eq_true.2 fun x hx => decide_eq_true ?_
  obtain ⟨q, hq, rfl⟩ := List.getElem_of_mem hx
  have := hjall q hq
  rw [nthZ hq] at this
  exact this
 rw [hsr hjall] at hfat
 refine ⟨[⟨nth (b.drop a.toNat) (6 * i + 2), nth (b.drop a.toNat) (6 * i + 3), nth (b.drop a.toNat) (6 * i + 4), nth (b.drop a.toNat) (6 * i + 5), sel row (selV row L)⟩], ⟨rfl, rfl, by simp⟩, ?_, ?_⟩
 · show (((List.range i).map (fAt b a)).length + 1) * 32 <= _
   rw [List.length_map, List.length_range]
   omega
 refine ⟨[0, 5], ⟨i + 1, hlt, fun q hq => ?_⟩, aI (aI rfl (aI rfl (aI rfl (aI rfl (aI rfl (aI (svI (i64_succ i (by omega))) trivial)))))) (aI rfl (aI (owFe ?_) trivial)), by show N - (i + 1) < N - i; omega⟩
 · by_cases e : q = i
   · subst e; rw [hTT]; exact hokT
   · exact hall q (by omega)
 · rw [List.range_succ, List.map_append, <- hfat]; rfl
end Go.Proofs.YtjflgkadagkllaaGreat
