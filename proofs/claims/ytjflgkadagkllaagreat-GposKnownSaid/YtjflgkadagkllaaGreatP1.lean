/- The reference's ranges and Coverage. -/
import Derived.Test.YtjflgkadagkllaaGreatN13
import Derived.Test.YtjflgkadagkllaaGreatR20
set_option maxRecDepth 100000
set_option linter.unusedVariables false
namespace Go.Proofs.YtjflgkadagkllaaGreat
open Go Go.Eng Go.RowKit
theorem rw_c (b : List Int) (a q : Int) (p : Nat) (hB : Byt b) (hb : b.length <= 1000000) (h0 : 0 <= a) (h : a + p + 2 <= b.length) (hq : q = a + p) (v : Value) (w : World) (hv : Rd w v 1 bE b) :
 Calls Tryz.prog 70 #[v, .int .i64 q] w fun e w' => e = .returned (.int .i64 (w2 (b.drop a.toNat) p)) /\ Below w.heap.size w w' := by
 have := w_c b (a + p) q hq hB (by omega) (i64_id _ (by omega) (by omega)) v w hv
 rwa [wF_at h0 h] at this
theorem rw_x (b : List Int) (a q : Int) (p : Nat) (x : Int) (hx : x = w2 (b.drop a.toNat) p) (hB : Byt b) (hb : b.length <= 1000000) (h0 : 0 <= a) (h : a + p + 2 <= b.length) (hq : q = a + p) (v : Value) (w : World) (hv : Rd w v 1 bE b) :
 Calls Tryz.prog 70 #[v, .int .i64 q] w fun e w' => e = .returned (.int .i64 x) /\ Below w.heap.size w w' := by
 subst hx
 exact rw_c b a q p hB hb h0 h hq v w hv
theorem all_q (b : List Int) (a n q m : Int) (hb : b.length <= 1000000) (ha : 0 <= a /\ a <= 10000000000) (hq : q = a) (hm : m = n) (v : Value) (w : World) (hv : Rd w v 1 bE b) :
 Calls Tryz.prog 71 #[v, .int .i64 q, .int .i64 m] w fun e w' => e = .returned (.bool (!outR b a n)) /\ Below w.heap.size w w' := by
 subst hq hm
 exact all_c b q m (by omega) (i64_id _ (by omega) (by omega)) v w hv
theorem sF_w2 {d : List Int} (h : Byt d) (i : Nat) : sF d i = w2 d (6 * i) := wd_w2 h _
theorem sL_w2 {d : List Int} (h : Byt d) (i : Nat) : sL d i = w2 d (6 * i + 2) := wd_w2 h _
theorem sT_w2 {d : List Int} (h : Byt d) (i : Nat) : sT d i = w2 d (6 * i + 4) := wd_w2 h _
set_option maxHeartbeats 1000000 in
theorem ranges_c (b : List Int) (a g m q : Int) (n : Nat) (hB : Byt b) (hb : b.length <= 1000000) (h0 : 0 <= a) (h1 : a <= 10000000) (hn : n <= 65535) (hm : m = (n : Int)) (hq : q = a) (v : Value) (w : World) (hv : Rd w v 1 bE b) :
 Calls Tryz.prog 87 #[v, .int .i64 q, .int .i64 m, .int .i64 g] w fun e w' => e = .returned (.bool (!outR b a (6 * (n : Int)) && allN (sB (b.drop a.toNat) g) n)) /\ Below w.heap.size w w' := by
 subst hm hq
 obtain ⟨X, hX⟩ : ∃ X, (!outR b q (6 * (n : Int)) && allN (sB (b.drop q.toNat) g) n) = X := ⟨_, rfl⟩
 rw [hX]
 refine calls_exec (cf := cf) cfok (fn := Tryz.f87) Tryz.func87 rfl [.sl 0, .v (.int .i64 q), .v (.int .i64 (n : Int)), .v (.int .i64 g)] [.rd Int inferInstance 1 bE b] (ρ := fun _ => v) (· < w.heap.size) rfl rfl rfl (by simp [svOkL, svOk]) (memRd (fun _ h => h) ⟨hv, trivial⟩) ?_
 have e6 : IntKind.i64.wrap (6 * (n : Int)) = 6 * (n : Int) := i64_id _ (by omega) (by omega)
 refine Or.inl ⟨.bool (!outR b q (6 * (n : Int))), fun ρ S w hm => all_q b q _ _ _ hb ⟨by omega, by omega⟩ rfl e6 _ w (hm.rd 0 rfl rfl), ?_⟩
 refine aI (fun h => ?_) (fun h => ?_)
 · have h : (!(!outR b q (6 * (n : Int)))) = true := h
   rw [Bool.not_not] at h
   rw [h] at hX
   subst hX
   exact fun ρ S w' hi => ⟨rfl, hi.below⟩
 have h : (!(!outR b q (6 * (n : Int)))) = false := h
 rw [Bool.not_not] at h
 rw [h] at hX
 obtain ⟨_, _, h2⟩ := outR_iff.1 h
 have hd := hB.drop q.toNat
 obtain ⟨d, hdd⟩ : ∃ d, d = b.drop q.toNat := ⟨_, rfl⟩
 rw [<- hdd] at hX hd
 refine ⟨{ i : Nat // i <= n /\ ∀ j, j < i -> sB d g j = false }, fun i => ⟨51, [⟨0, [], .sl 0⟩, ⟨1, [], .v (.int .i64 q)⟩, ⟨2, [], .v (.int .i64 (n : Int))⟩, ⟨3, [], .v (.int .i64 g)⟩, ⟨9, [], .v (.int .i64 (sE d i.1))⟩, ⟨10, [], .v (.int .i64 (i.1 : Nat))⟩], [.rd Int inferInstance 1 bE b], [], dropL nats 1⟩, fun i => n - i.1, ⟨[0], ⟨0, by omega, fun j h => absurd h (by omega)⟩, ?_⟩, fun i => ?_⟩
 · exact aI (aI rfl (aI rfl (aI rfl (aI rfl (aI rfl (aI rfl trivial)))))) (aI rfl trivial)
 obtain ⟨i, hi, hall⟩ := i
 refine aI (fun hlt => ?_) (fun hge => ?_)
 rotate_left
 · have hge : i = n := by
    have : ¬ ((i : Nat) : Int) < ((n : Nat) : Int) := of_decide_eq_false hge
    omega
   subst hge
   rw [allN_true hall] at hX
   subst hX
   exact fun ρ S w' hi => ⟨rfl, hi.below⟩
 have hlt : i < n := by
  have : ((i : Nat) : Int) < ((n : Nat) : Int) := of_decide_eq_true hlt
  omega
 have w6 : IntKind.i64.wrap (6 * (i : Int)) = 6 * (i : Int) := i64_id _ (by omega) (by omega)
 have wa : IntKind.i64.wrap (q + IntKind.i64.wrap (6 * (i : Int))) = q + ((6 * i : Nat) : Int) := by rw [w6, i64_id _ (by omega) (by omega)]; omega
 have wb : IntKind.i64.wrap (IntKind.i64.wrap (q + IntKind.i64.wrap (6 * (i : Int))) + 2) = q + ((6 * i + 2 : Nat) : Int) := by rw [wa, i64_id _ (by omega) (by omega)]; omega
 refine Or.inl ⟨.int .i64 (sF d i), fun ρ S w hm => rw_x b q _ (6 * i) (sF d i) (by rw [sF_w2 hd, hdd]) hB hb h0 (by omega) wa _ w (hm.rd 0 rfl rfl), ?_⟩
 refine Or.inl ⟨.int .i64 (sL d i), fun ρ S w hm => rw_x b q _ (6 * i + 2) (sL d i) (by rw [sL_w2 hd, hdd]) hB hb h0 (by omega) wb _ w (hm.rd 0 rfl rfl), ?_⟩
 refine aI (fun hb => ?_) (fun hb => ?_)
 · have hb : sB d g i = true := hb
   rw [allN_false hlt hb] at hX
   subst hX
   exact fun ρ S w' hi => ⟨rfl, hi.below⟩
 have hb : sB d g i = false := hb
 exact ⟨[0], ⟨i + 1, hlt, fun j hj => by
  by_cases he : j = i
  · rw [he]; exact hb
  · exact hall j (by omega)⟩, aI (aI rfl (aI rfl (aI rfl (aI rfl (aI rfl (aI (svI (i64_succ i (by omega))) trivial)))))) (aI rfl trivial), by show n - (i + 1) < n - i; omega⟩
end Go.Proofs.YtjflgkadagkllaaGreat

/- The reference's Coverage. -/
set_option maxRecDepth 100000
set_option linter.unusedVariables false
namespace Go.Proofs.YtjflgkadagkllaaGreat
open Go Go.Eng Go.RowKit
abbrev ow16 (l : List Int) : Chunk := .own 34 Int inferInstance 1 hE l
theorem ow16e {a b : List Int} (h : a = b) : ow16 a = ow16 b := by rw [h]
theorem rowO_succ (d : List Int) (p n : Nat) : rowO d p (n + 1) = rowO d p n ++ [wo d (p + 2 * n)] := by
 unfold rowO; rw [List.range_succ, List.map_append]; rfl
set_option maxHeartbeats 1000000 in
theorem rcov_c (b : List Int) (a g : Int) (hB : Byt b) (hb : b.length <= 1000000) (ha : -10000000 <= a /\ a <= 10000000) (v : Value) (w : World) (hv : Rd w v 1 bE b) :
 Calls Tryz.prog 72 #[v, .int .i64 a, .int .i64 g] w (CovR b a g w) := by
 refine calls_exec (cf := cf) cfok (fn := Tryz.f72) Tryz.func72 rfl [.sl 0, .v (.int .i64 a), .v (.int .i64 g)] [.rd Int inferInstance 1 bE b] (ρ := fun _ => v) (· < w.heap.size) rfl rfl rfl (by simp [svOkL, svOk]) (memRd (fun _ h => h) ⟨hv, trivial⟩) ?_
 have eaw : IntKind.i64.wrap a = a := i64_id _ (by omega) (by omega)
 refine Or.inl ⟨.bool (!outR b a 4), fun ρ S w hm => all_c b a 4 (by omega) eaw _ w (hm.rd 0 rfl rfl), ?_⟩
 refine aI (fun h => ?_) (fun h => ?_)
 · have h : (!(!outR b a 4)) = true := h
   rw [Bool.not_not] at h
   exact fun ρ S w' hi => .inl ⟨by unfold covX; rw [if_pos h], rfl, hi.below⟩
 have h : (!(!outR b a 4)) = false := h
 rw [Bool.not_not] at h
 obtain ⟨h0, _, h4⟩ := outR_iff.1 h
 have hd := hB.drop a.toNat
 have hd4 := hd.drop 4
 have hdd4 : (b.drop a.toNat).drop 4 = b.drop (a + 4).toNat := by rw [List.drop_drop, show (a + 4).toNat = a.toNat + 4 from by omega]
 have hc : covX b a g = if w2 (b.drop a.toNat) 0 = 1 then (if outR b (a + 4) (2 * w2 (b.drop a.toNat) 2) then none else cov1 (b.drop a.toNat) g (w2 (b.drop a.toNat) 2).toNat)
  else if w2 (b.drop a.toNat) 0 = 2 then (if outR b (a + 4) (6 * w2 (b.drop a.toNat) 2) then none else cov2 ((b.drop a.toNat).drop 4) g (w2 (b.drop a.toNat) 2).toNat)
  else none := by unfold covX; rw [if_neg (by rw [h]; decide), wd_w2 hd, wd_w2 hd]
 have hw2 : IntKind.i64.wrap (a + 2) = a + ((2 : Nat) : Int) := i64_id _ (by omega) (by omega)
 have hw4 : IntKind.i64.wrap (a + 4) = a + ((4 : Nat) : Int) := i64_id _ (by omega) (by omega)
 refine Or.inl ⟨.int .i64 (w2 (b.drop a.toNat) 2), fun ρ S w hm => rw_c b a _ 2 hB hb h0 (by omega) hw2 _ w (hm.rd 0 rfl rfl), ?_⟩
 refine Or.inl ⟨.int .i64 (w2 (b.drop a.toNat) 0), fun ρ S w hm => rw_c b a _ 0 hB hb h0 (by omega) (by simp) _ w (hm.rd 0 rfl rfl), ?_⟩
 have hn := w2_range hd 2
 obtain ⟨d, hdd⟩ : ∃ d, d = b.drop a.toNat := ⟨_, rfl⟩
 rw [<- hdd] at hc hn hd hd4 hdd4 ⊢
 obtain ⟨N, hN⟩ : ∃ N : Nat, N = (w2 d 2).toNat := ⟨_, rfl⟩
 have hNw : w2 d 2 = (N : Int) := by omega
 rw [hNw] at hc ⊢
 rw [Int.toNat_natCast] at hc
 have n2 : IntKind.i64.wrap (2 * (N : Int)) = 2 * (N : Int) := i64_id _ (by omega) (by omega)
 have fin : ∀ l : List Int, (decide ((l.length : Int) = 0) || decide ((l.length : Int) > 65535)) = false -> finC l = some l := fun l h => by
  rw [Bool.or_eq_false_iff, decide_eq_false_iff_not, decide_eq_false_iff_not] at h
  unfold finC; rw [if_pos ⟨by omega, by omega⟩]
 have finN : ∀ l : List Int, (decide ((l.length : Int) = 0) || decide ((l.length : Int) > 65535)) = true -> finC l = none := fun l h => by
  rw [Bool.or_eq_true, decide_eq_true_iff, decide_eq_true_iff] at h
  unfold finC; rw [if_neg (by omega)]
 refine aI (fun h1 => ?_) (fun h1 => ?_)
 · have h1 : w2 d 0 = 1 := of_decide_eq_true h1
   rw [if_pos h1] at hc
   refine Or.inl ⟨.bool (!outR b (a + 4) (2 * (N : Int))), fun ρ S w hm => all_q b (a + 4) _ _ _ hb ⟨by omega, by omega⟩ hw4 n2 _ w (hm.rd 0 rfl rfl), ?_⟩
   refine aI (fun h => ?_) (fun h => ?_)
   · have h : (!(!outR b (a + 4) (2 * (N : Int)))) = true := h
     rw [Bool.not_not] at h
     exact fun ρ S w' hi => .inl ⟨by rw [hc, if_pos h], rfl, hi.below⟩
   have h : (!(!outR b (a + 4) (2 * (N : Int)))) = false := h
   rw [Bool.not_not] at h
   obtain ⟨_, _, hlen⟩ := outR_iff.1 h
   rw [h, if_neg (by decide)] at hc
   unfold cov1 at hc
   have hb1 : ∀ i, i < N -> ok1 g (rowO d 4 N) i = false -> covX b a g = none := fun i hi he => by
    rw [hc, if_neg (fun hall => by rw [hall i hi] at he; cases he)]
   refine ⟨{ i : Nat // i <= N /\ ∀ j, j < i -> ok1 g (rowO d 4 N) j = true }, fun i => ⟨124, [⟨0, [], .sl 0⟩, ⟨1, [], .v (.int .i64 a)⟩, ⟨2, [], .v (.int .i64 g)⟩, ⟨8, [], .v (.int .i64 (N : Int))⟩, ⟨9, [], .sl 1⟩, ⟨10, [], .v (.int .i64 (i.1 : Nat))⟩], [.rd Int inferInstance 1 bE b, ow16 (rowO d 4 i.1)], [], dropL nats 2⟩, fun i => N - i.1, ⟨[0, 1000], ⟨0, by omega, fun j h => absurd h (by omega)⟩, ?_⟩, fun i => ?_⟩
   · exact aI (aI rfl (aI rfl (aI rfl (aI rfl (aI rfl (aI rfl trivial)))))) (aI rfl (aI rfl trivial))
   obtain ⟨i, hi, hall⟩ := i
   refine aI (fun hlt => ?_) (fun hge => ?_)
   rotate_left
   · have hge : i = N := by
      have : ¬ ((i : Nat) : Int) < ((N : Nat) : Int) := of_decide_eq_false hge
      omega
     subst hge
     rw [if_pos (fun i hi => hall i hi)] at hc
     refine aI (fun h2 => ?_) (fun h2 => ?_)
     · have h2 := finN (rowO d 4 i) h2
       exact fun ρ S w' hi => .inl ⟨by rw [hc, h2], rfl, hi.below⟩
     · have h2 := fin (rowO d 4 i) h2
       exact fun ρ S w' hi => .inr ⟨_, _, by rw [hc, h2], rfl, hi.below, hi.fresh 1 flatH rfl rfl⟩
   have hlt : i < N := by
    have : ((i : Nat) : Int) < ((N : Nat) : Int) := of_decide_eq_true hlt
    omega
   have w2i : IntKind.i64.wrap (2 * (i : Int)) = 2 * (i : Int) := i64_id _ (by omega) (by omega)
   have wi : IntKind.i64.wrap (IntKind.i64.wrap (a + 4) + IntKind.i64.wrap (2 * (i : Int))) = a + ((4 + 2 * i : Nat) : Int) := by rw [w2i, hw4, i64_id _ (by omega) (by omega)]; omega
   refine Or.inl ⟨.int .i64 (wo d (4 + 2 * i)), fun ρ S w hm => rw_x b a _ (4 + 2 * i) _ (by rw [wo_w2 hd, hdd]) hB hb h0 (by omega) wi _ w (hm.rd 0 rfl rfl), ?_⟩
   have hln : (rowO d 4 i).length = i := rowO_len _ _ _
   have bp : decide ((i : Int) > 0) = true -> 0 <= IntKind.i64.wrap ((i : Int) - 1) /\ IntKind.i64.wrap ((i : Int) - 1) < ((rowO d 4 i).length : Int) := fun h => by
    have h : (i : Int) > 0 := of_decide_eq_true h
    rw [i64_id _ (by omega) (by omega), hln]; omega
   refine aI (fun h15 _ => bp h15) ?_
   have hr := wo_range d (4 + 2 * i)
   have hx : ∀ x : Bool, (decide (wo d (4 + 2 * i) >= g) || (decide ((i : Int) > 0) && decide (wo d (4 + 2 * i) <= IntKind.i64.wrap (nth (rowO d 4 i) (IntKind.i64.wrap ((i : Int) - 1)).toNat)))) = x -> ok1 g (rowO d 4 N) i = !x := fun x hx => by
    subst hx
    unfold ok1
    rw [rowO_nth _ _ _ _ hlt]
    by_cases hz : (i : Int) > 0
    · have hr2 := wo_range d (4 + 2 * (i - 1))
      rw [i64_id ((i : Int) - 1) (by omega) (by omega), show ((i : Int) - 1).toNat = i - 1 from by omega, rowO_nth _ _ _ _ (by omega), rowO_nth _ _ _ _ (by omega), i64_id _ (by omega) (by omega)]
    · rw [decide_eq_false hz]; rfl
   refine aI (fun hb2 => ?_) (fun hb2 => ?_)
   · exact fun ρ S w' hi => .inl ⟨hb1 i hlt (hx true hb2), rfl, hi.below⟩
   refine ⟨[IntKind.u16.wrap (wo d (4 + 2 * i))], ⟨rfl, rfl, fun y hy => rfl⟩, ?_, ?_⟩
   · show ((rowO d 4 i).length + 1) * 2 <= _
     rw [hln]; omega
   exact ⟨[0, 3], ⟨i + 1, hlt, fun j hj => by
    by_cases he : j = i
    · rw [he]; exact hx false hb2
    · exact hall j (by omega)⟩, aI (aI rfl (aI rfl (aI rfl (aI rfl (aI rfl (aI (svI (i64_succ i (by omega))) trivial)))))) (aI rfl (aI (ow16e (by rw [rowO_succ, u16w hr])) trivial)), by show N - (i + 1) < N - i; omega⟩
 have h1 : ¬ w2 d 0 = 1 := of_decide_eq_false h1
 rw [if_neg h1] at hc
 refine aI (fun h2 => ?_) (fun h2 => ?_)
 rotate_left
 · have h2 : ¬ w2 d 0 = 2 := of_decide_eq_false h2
   rw [if_neg h2] at hc
   refine aI (fun _ => ?_) (fun h => by cases h)
   exact fun ρ S w' hi => .inl ⟨hc, rfl, hi.below⟩
 have h2 : w2 d 0 = 2 := of_decide_eq_true h2
 rw [if_pos h2] at hc
 refine Or.inl ⟨.bool (!outR b (a + 4) (6 * (N : Int)) && allN (sB (b.drop (a + 4).toNat) g) N), fun ρ S w hm => ranges_c b (a + 4) g _ _ N hB hb (by omega) (by omega) (by omega) rfl hw4 _ w (hm.rd 0 rfl rfl), ?_⟩
 rw [<- hdd4]
 have h6 : 0 <= a + 4 := by omega
 refine aI (fun h => ?_) (fun h => ?_)
 · have h : (!(!outR b (a + 4) (6 * (N : Int)) && allN (sB (d.drop 4) g) N)) = true := h
   refine fun ρ S w' hi => .inl ⟨?_, rfl, hi.below⟩
   rw [hc]
   by_cases ho : outR b (a + 4) (6 * (N : Int)) = true
   · rw [if_pos ho]
   · rw [if_neg ho]
     unfold cov2
     rw [if_neg]
     intro hall
     have ho : outR b (a + 4) (6 * (N : Int)) = false := by rw [Bool.not_eq_true] at ho; exact ho
     rw [ho, allN_true] at h
     · cases h
     · intro j hj
       have := hall j hj
       unfold ok2 at this
       rw [Bool.and_eq_true, Bool.not_eq_true'] at this
       exact this.1
 have h : (!(!outR b (a + 4) (6 * (N : Int)) && allN (sB (d.drop 4) g) N)) = false := h
 rw [Bool.not_eq_false', Bool.and_eq_true, Bool.not_eq_true'] at h
 obtain ⟨ho, hall⟩ := h
 have hsB := allN_of hall
 obtain ⟨_, _, hlen⟩ := outR_iff.1 ho
 rw [ho, if_neg (by decide)] at hc
 unfold cov2 at hc
 obtain ⟨D, hD⟩ : ∃ D, D = d.drop 4 := ⟨_, rfl⟩
 rw [<- hD] at hc hsB hd4 hdd4
 have hb2 : ∀ i, i < N -> ok2 D g i = false -> covX b a g = none := fun i hi he => by
  rw [hc, if_neg (fun hall => by rw [hall i hi] at he; cases he)]
 refine ⟨{ i : Nat // i <= N /\ ∀ j, j < i -> ok2 D g j = true }, fun i => ⟨124, [⟨0, [], .sl 0⟩, ⟨1, [], .v (.int .i64 a)⟩, ⟨8, [], .v (.int .i64 (N : Int))⟩, ⟨9, [], .sl 1⟩, ⟨12, [], .v (.int .i64 (i.1 : Nat))⟩], [.rd Int inferInstance 1 bE b, ow16 (accL D i.1)], [], dropL nats 2⟩, fun i => N - i.1, ⟨[0, 1000], ⟨0, by omega, fun j h => absurd h (by omega)⟩, ?_⟩, fun i => ?_⟩
 · exact aI (aI rfl (aI rfl (aI rfl (aI rfl (aI rfl trivial))))) (aI rfl (aI rfl trivial))
 obtain ⟨i, hi, hall2⟩ := i
 refine aI (fun hlt => ?_) (fun hge => ?_)
 rotate_left
 · have hge : i = N := by
    have : ¬ ((i : Nat) : Int) < ((N : Nat) : Int) := of_decide_eq_false hge
    omega
   subst hge
   rw [if_pos (fun i hi => hall2 i hi)] at hc
   refine aI (fun h2 => ?_) (fun h2 => ?_)
   · have h2 := finN (accL D i) h2
     exact fun ρ S w' hi => .inl ⟨by rw [hc, h2], rfl, hi.below⟩
   · have h2 := fin (accL D i) h2
     exact fun ρ S w' hi => .inr ⟨_, _, by rw [hc, h2], rfl, hi.below, hi.fresh 1 flatH rfl rfl⟩
 have hlt : i < N := by
  have : ((i : Nat) : Int) < ((N : Nat) : Int) := of_decide_eq_true hlt
  omega
 have hacl := accL_len D i
 have w6i : IntKind.i64.wrap (6 * (i : Int)) = 6 * (i : Int) := i64_id _ (by omega) (by omega)
 have hw4' : IntKind.i64.wrap (a + 4) = a + 4 := hw4
 have hw6' : IntKind.i64.wrap (a + 6) = a + 6 := i64_id _ (by omega) (by omega)
 have hw8' : IntKind.i64.wrap (a + 8) = a + 8 := i64_id _ (by omega) (by omega)
 have w4 : IntKind.i64.wrap (IntKind.i64.wrap (a + 4) + IntKind.i64.wrap (6 * (i : Int))) = (a + 4) + ((6 * i : Nat) : Int) := by rw [w6i, hw4', i64_id _ (by omega) (by omega)]; omega
 have w6 : IntKind.i64.wrap (IntKind.i64.wrap (a + 6) + IntKind.i64.wrap (6 * (i : Int))) = (a + 4) + ((6 * i + 2 : Nat) : Int) := by rw [w6i, hw6', i64_id _ (by omega) (by omega)]; omega
 have w8 : IntKind.i64.wrap (IntKind.i64.wrap (a + 8) + IntKind.i64.wrap (6 * (i : Int))) = (a + 4) + ((6 * i + 4 : Nat) : Int) := by rw [w6i, hw8', i64_id _ (by omega) (by omega)]; omega
 refine Or.inl ⟨.int .i64 (sT D i), fun ρ S w hm => rw_x b (a + 4) _ (6 * i + 4) _ (by rw [sT_w2 hd4, hdd4]) hB hb h6 (by omega) w8 _ w (hm.rd 0 rfl rfl), ?_⟩
 refine aI (fun ht => ?_) (fun ht => ?_)
 · have ht : (!decide (sT D i = ((accL D i).length : Int))) = true := ht
   rw [Bool.not_eq_true'] at ht
   exact fun ρ S w' hi => .inl ⟨hb2 i hlt (by unfold ok2; rw [ht, Bool.and_false]), rfl, hi.below⟩
 have ht : (!decide (sT D i = ((accL D i).length : Int))) = false := ht
 rw [Bool.not_eq_false'] at ht
 have hok : ok2 D g i = true := by unfold ok2; rw [ht, hsB i hlt]; rfl
 refine Or.inl ⟨.int .i64 (sF D i), fun ρ S w hm => rw_x b (a + 4) _ (6 * i) _ (by rw [sF_w2 hd4, hdd4]) hB hb h6 (by omega) w4 _ w (hm.rd 0 rfl rfl), ?_⟩
 have hF : 0 <= sF D i /\ sF D i <= 65535 := wd_range D (6 * i)
 have hL : 0 <= sL D i /\ sL D i <= 65535 := wd_range D (6 * i + 2)
 have hFL : sF D i <= sL D i := by
  have := hsB i hlt
  unfold sB at this
  rw [Bool.or_eq_false_iff, Bool.or_eq_false_iff, decide_eq_false_iff_not] at this
  omega
 have hacc : accL D (i + 1) = accL D i ++ rangeW (sF D i) (sL D i + 1 - sF D i).toNat := rfl
 refine ⟨{ t : Nat // sF D i + t <= sL D i + 1 }, fun t => ⟨124, [⟨0, [], .sl 0⟩, ⟨1, [], .v (.int .i64 a)⟩, ⟨8, [], .v (.int .i64 (N : Int))⟩, ⟨9, [], .sl 1⟩, ⟨12, [], .v (.int .i64 (i : Nat))⟩, ⟨13, [], .v (.int .i64 (sF D i + (t.1 : Int)))⟩], [.rd Int inferInstance 1 bE b, ow16 (accL D i ++ rangeW (sF D i) t.1)], [], dropL nats 2⟩, fun t => (sL D i + 1 - sF D i).toNat - t.1, ⟨[0, 1], ⟨0, by omega⟩, ?_⟩, fun t => ?_⟩
 · exact aI (aI rfl (aI rfl (aI rfl (aI rfl (aI rfl (aI (svI (by simp)) trivial)))))) (aI rfl (aI (ow16e (by rw [show rangeW (sF D i) 0 = [] from rfl, List.append_nil])) trivial))
 obtain ⟨t, ht2⟩ := t
 have ht2 : sF D i + (t : Int) <= sL D i + 1 := ht2
 refine Or.inl ⟨.int .i64 (sL D i), fun ρ S w hm => rw_x b (a + 4) _ (6 * i + 2) _ (by rw [sL_w2 hd4, hdd4]) hB hb h6 (by omega) w6 _ w (hm.rd 0 rfl rfl), ?_⟩
 refine aI (fun hlt2 => ?_) (fun hge2 => ?_)
 · have hlt2 : sF D i + (t : Int) <= sL D i := of_decide_eq_true hlt2
   have hnx : IntKind.i64.wrap (sF D i + (t : Int) + 1) = sF D i + ((t + 1 : Nat) : Int) := by rw [i64_id _ (by omega) (by omega)]; omega
   refine ⟨[IntKind.u16.wrap (sF D i + (t : Int))], ⟨rfl, rfl, fun y hy => rfl⟩, ?_, ?_⟩
   · show ((accL D i ++ rangeW (sF D i) t).length + 1) * 2 <= _
     rw [List.length_append, rangeW_len]; omega
   · exact ⟨[0, 3], ⟨t + 1, by show sF D i + ((t + 1 : Nat) : Int) <= sL D i + 1; omega⟩, aI (aI rfl (aI rfl (aI rfl (aI rfl (aI rfl (aI (svI hnx) trivial)))))) (aI rfl (aI (ow16e (by rw [rangeW_succ, <- List.append_assoc])) trivial)), by show _ - (t + 1) < _ - t; omega⟩
 · have hge2 : ¬ sF D i + (t : Int) <= sL D i := of_decide_eq_false hge2
   have hte : t = (sL D i + 1 - sF D i).toNat := by omega
   exact ⟨[0, 1], ⟨i + 1, hlt, fun j hj => by
    by_cases he : j = i
    · rw [he]; exact hok
    · exact hall2 j (by omega)⟩, aI (aI rfl (aI rfl (aI rfl (aI rfl (aI (svI (i64_succ i (by omega))) trivial))))) (aI rfl (aI (ow16e (by show accL D i ++ rangeW (sF D i) t = accL D (i + 1); rw [hacc, hte])) trivial)), by show N - (i + 1) < N - i; omega⟩
end Go.Proofs.YtjflgkadagkllaaGreat

/- The reference's Lookups. -/
set_option maxRecDepth 100000
set_option linter.unusedVariables false
namespace Go.Proofs.YtjflgkadagkllaaGreat
open Go Go.Eng Go.RowKit
abbrev owTr (xs : List Tab) : Chunk := .own 134 Tab inferInstance 3 tbE xs
theorem owTre {a b : List Tab} (h : a = b) : owTr a = owTr b := by rw [h]
theorem outR_add {b : List Int} {a n : Int} {p : Int} (h0 : 0 <= a) (hp : 0 <= p) (hn : 0 <= n) : outR b a (p + n) = outR b (a + p) n := by
 have e : ∀ x y : Bool, (x = false ↔ y = false) -> x = y := fun x y h => by cases x <;> cases y <;> simp_all
 refine e _ _ ?_
 rw [outR_iff, outR_iff]
 omega
theorem wF_in {b : List Int} {a : Int} (h : outR b a 2 = false) : wF b a = w2 (b.drop a.toNat) 0 := by
 unfold wF; rw [h]; rfl
theorem flag_eq {n : Int} (h : 0 <= n /\ n <= 15) : IntKind.u16.wrap (IntKind.i64.wrap (IntKind.i64.wrap (n.tdiv 2) * 2)) = flagF n := by
 obtain ⟨k, rfl⟩ : ∃ k : Nat, n = (k : Int) := ⟨n.toNat, by omega⟩
 have hk : k < 16 := by omega
 have : ∀ k : Fin 16, IntKind.u16.wrap (IntKind.i64.wrap (IntKind.i64.wrap (((k.val : Nat) : Int).tdiv 2) * 2)) = flagF ((k.val : Nat) : Int) := by decide
 exact this ⟨k, hk⟩
theorem cells3 {a b c a' b' c' : SV} (h1 : a = a') (h2 : b = b') (h3 : c = c') : [a, b, c] = [a', b', c'] := by rw [h1, h2, h3]
set_option maxHeartbeats 1000000 in
theorem rlook_c (b : List Int) (a : Int) (hB : Byt b) (hb : b.length <= 3000) (ha : 0 <= a /\ a <= 65535) (v : Value) (w : World) (S : Nat -> Prop) (hS : ∀ b, S b -> b < w.heap.size) (hv : DRep S w (.sl Int inferInstance 1 bE b) v) :
 Calls Tryz.prog 58 #[v, .int .i64 a] w (LookR (lookX b a) S w) := by
 refine calls_exec2 (cf := cf) cfok rfl rfl (fn := Tryz.f58) Tryz.func58 rfl [.sl 0, .v (.int .i64 a)] [.rd Int inferInstance 1 bE b] (ρ := fun _ => v) (· < w.heap.size) S rfl rfl rfl (by simp [svOkL, svOk]) rfl (memRd hS ⟨hv, trivial⟩) (fun b hb => ⟨hb, rd_own rfl b⟩) ?_
 have bad : lookX b a = none -> ∀ w', Below w.heap.size w w' -> LookR (lookX b a) S w (.returned (.tuple #[.slice none 0 0, .int .i64 50])) w' := fun h w' hb => by
  rw [h]
  exact ⟨[.slice none 0 0, .int .i64 50], rfl, hb, ⟨DRep.nil, rfl, trivial⟩⟩
 have hwr := wF_range hB a
 have eaw : IntKind.i64.wrap a = a := i64_id _ (by omega) (by omega)
 refine Or.inl ⟨.int .i64 (wF b a), fun ρ S w hm => w_c b a a rfl hB (by omega) eaw _ w (hm.rd 0 rfl rfl), ?_⟩
 refine Or.inl ⟨.bool (!outR b a 2), fun ρ S w hm => all_q b a 2 a 2 (by omega) ⟨by omega, by omega⟩ rfl rfl _ w (hm.rd 0 rfl rfl), ?_⟩
 have e2N : IntKind.i64.wrap (2 + IntKind.i64.wrap (2 * wF b a)) = 2 + 2 * wF b a := by rw [i64_id (2 * wF b a) (by omega) (by omega), i64_id _ (by omega) (by omega)]
 refine Or.inl ⟨.bool (!outR b a (2 + 2 * wF b a)), fun _ ρ S w hm => all_q b a (2 + 2 * wF b a) a _ (by omega) ⟨by omega, by omega⟩ rfl e2N _ w (hm.rd 0 rfl rfl), ?_⟩
 refine aI (fun h3 => ?_) (fun h3 => ?_)
 · have h3 : ((!(!outR b a 2) || decide (wF b a > 256)) || !(!outR b a (2 + 2 * wF b a))) = true := h3
   refine fun ρ S' w' hi => bad ?_ w' hi.below
   unfold lookX
   rw [Bool.not_not, Bool.not_not] at h3
   by_cases ho : outR b a 2 = true
   · rw [if_pos ho]
   · rw [if_neg ho]
     rw [Bool.not_eq_true] at ho
     rw [ho, wF_in ho, Bool.false_or, Bool.or_eq_true, decide_eq_true_iff, outR_add ha.1 (by omega) (by rw [<- wF_in ho]; omega)] at h3
     have hN : ((lkN b a : Nat) : Int) = w2 (b.drop a.toNat) 0 := by
      have := w2_range (hB.drop a.toNat) 0
      unfold lkN; omega
     rw [if_pos]
     rw [hN]
     rcases h3 with h3 | h3
     · left; omega
     · right; exact h3
 have h3 : ((!(!outR b a 2) || decide (wF b a > 256)) || !(!outR b a (2 + 2 * wF b a))) = false := h3
 rw [Bool.not_not, Bool.not_not, Bool.or_eq_false_iff, Bool.or_eq_false_iff, decide_eq_false_iff_not] at h3
 obtain ⟨⟨ho, h256⟩, ho2⟩ := h3
 have hN : wF b a = ((lkN b a : Nat) : Int) := by
  have := w2_range (hB.drop a.toNat) 0
  rw [wF_in ho]; unfold lkN; omega
 rw [hN] at h256 ho2 ⊢
 rw [outR_add ha.1 (by omega) (by omega)] at ho2
 have hX : lookX b a = if ((List.range (lkN b a)).all fun i => okL b (lkT b a i)) = true then some ((List.range (lkN b a)).map fun i => lkAt b (lkT b a i)) else none := by
  unfold lookX
  rw [if_neg (by rw [ho]; decide), if_neg (fun hh => hh.elim (fun h => by omega) (fun h => by rw [ho2] at h; cases h))]
 have hroom : a + 2 + 2 * (lkN b a : Int) <= b.length := (outR_iff.1 ho2).2.2
 obtain ⟨N, hNN⟩ : ∃ N, N = lkN b a := ⟨_, rfl⟩
 rw [<- hNN] at hX hroom h256 ⊢
 have badI : ∀ i, i < N -> okL b (lkT b a i) = false -> lookX b a = none := fun i hi hf => by
  rw [hX, if_neg (fun hall => by
   have := List.all_eq_true.1 hall i (List.mem_range.2 hi)
   rw [hf] at this
   cases this)]
 refine ⟨{ i : Nat // i <= N /\ ∀ j, j < i -> okL b (lkT b a j) = true }, fun i => ⟨114, [⟨0, [], .sl 0⟩, ⟨1, [], .v (.int .i64 a)⟩, ⟨6, [], .v (.int .i64 (N : Int))⟩, ⟨7, [], .sl 1⟩, ⟨8, [], .v (.int .i64 (i.1 : Nat))⟩], [.rd Int inferInstance 1 bE b, owTr ((List.range i.1).map fun i => lkAt b (lkT b a i))], [], dropL nats 2⟩, fun i => N - i.1, ⟨[0, 1000], ⟨0, Nat.zero_le _, fun j hj => absurd hj (Nat.not_lt_zero _)⟩, ?_⟩, fun i => ?_⟩
 · exact aI (aI rfl (aI rfl (aI rfl (aI rfl (aI rfl trivial))))) (aI rfl (aI rfl trivial))
 obtain ⟨i, hi, hall⟩ := i
 refine aI (fun hlt => ?_) (fun hge => ?_)
 rotate_left
 · have hge : i = N := by
    have : ¬ ((i : Nat) : Int) < ((N : Nat) : Int) := of_decide_eq_false hge
    omega
   subst hge
   rw [if_pos (List.all_eq_true.2 fun j hj => hall j (List.mem_range.1 hj))] at hX
   rw [hX]
   refine fun ρ S' w' hi => ⟨[den ρ (.sl 1), .int .i64 0], rfl, hi.below, ⟨?_, rfl, trivial⟩⟩
   exact hi.rep 40 (.sl 1) (.sl Tab inferInstance 3 tbE _) rfl rfl
 have hlt : i < N := by
  have : ((i : Nat) : Int) < ((N : Nat) : Int) := of_decide_eq_true hlt
  omega
 have hwt := w2_range (hB.drop a.toNat) (2 + 2 * i)
 have e2i : IntKind.i64.wrap (IntKind.i64.wrap (a + 2) + IntKind.i64.wrap (2 * (i : Int))) = a + ((2 + 2 * i : Nat) : Int) := by rw [i64_id (a + 2) (by omega) (by omega), i64_id (2 * (i : Int)) (by omega) (by omega), i64_id _ (by omega) (by omega)]; omega
 refine Or.inl ⟨.int .i64 (w2 (b.drop a.toNat) (2 + 2 * i)), fun ρ S w hm => rw_c b a _ (2 + 2 * i) hB (by omega) ha.1 (by omega) e2i _ w (hm.rd 0 rfl rfl), ?_⟩
 have eT : IntKind.i64.wrap (a + w2 (b.drop a.toNat) (2 + 2 * i)) = lkT b a i := by
  rw [i64_id _ (by omega) (by omega)]; rfl
 have ht0 : 0 <= lkT b a i /\ lkT b a i <= 200000 := by unfold lkT; omega
 have hlast : okL b (lkT b a i) = true -> (List.range (i + 1)).map (fun i => lkAt b (lkT b a i)) = (List.range i).map (fun i => lkAt b (lkT b a i)) ++ [lkAt b (lkT b a i)] := fun _ => by rw [List.range_succ, List.map_append]; rfl
 obtain ⟨t, ht⟩ : ∃ t, t = lkT b a i := ⟨_, rfl⟩
 have badT := badI i hlt
 rw [<- ht] at ht0 hlast badT eT
 have eTc : ∀ c : Int, 0 <= c /\ c <= 10 -> IntKind.i64.wrap (IntKind.i64.wrap (a + w2 (b.drop a.toNat) (2 + 2 * i)) + c) = t + c := fun c hc => by rw [eT]; exact i64_id _ (by omega) (by omega)
 have hkr := wF_range hB (t + 4)
 have hfr := wF_range hB (t + 2)
 refine Or.inl ⟨.int .i64 (wF b (t + 4)), fun ρ S w hm => w_c b (t + 4) _ (eTc 4 (by decide)) hB (by omega) (i64_id _ (by omega) (by omega)) _ w (hm.rd 0 rfl rfl), ?_⟩
 refine Or.inl ⟨.int .i64 (wF b (t + 2)), fun ρ S w hm => w_c b (t + 2) _ (eTc 2 (by decide)) hB (by omega) (i64_id _ (by omega) (by omega)) _ w (hm.rd 0 rfl rfl), ?_⟩
 refine Or.inl ⟨.bool (!outR b t 6), fun ρ S w hm => all_q b t 6 _ 6 (by omega) ⟨by omega, by omega⟩ eT rfl _ w (hm.rd 0 rfl rfl), ?_⟩
 have e6k : IntKind.i64.wrap (6 + IntKind.i64.wrap (2 * wF b (t + 4))) = 6 + 2 * wF b (t + 4) := by rw [i64_id (2 * wF b (t + 4)) (by omega) (by omega), i64_id _ (by omega) (by omega)]
 refine Or.inl ⟨.bool (!outR b t (6 + 2 * wF b (t + 4))), fun _ ρ S w hm => all_q b t (6 + 2 * wF b (t + 4)) _ _ (by omega) ⟨by omega, by omega⟩ eT e6k _ w (hm.rd 0 rfl rfl), ?_⟩
 have hokE : ((((!(!outR b t 6) || decide (wF b (t + 4) < 1)) || decide (wF b (t + 4) > 256)) || !(!outR b t (6 + 2 * wF b (t + 4)))) || decide (wF b (t + 2) > 15)) = !okL b t := by
  unfold okL
  cases ho6 : outR b t 6 with
  | true => rfl
  | false =>
   have hr6 := (outR_iff.1 ho6).2.2
   have h4 : wF b (t + 4) = lkK b t := wF_at (p := 4) ht0.1 (by omega)
   have h2 : wF b (t + 2) = w2 (b.drop t.toNat) 2 := wF_at (p := 2) ht0.1 (by omega)
   rw [h4] at hkr ⊢
   rw [h2, outR_add ht0.1 (by omega) (by omega)]
   have hd : decide (w2 (b.drop t.toNat) 2 > 15) = !decide (w2 (b.drop t.toNat) 2 <= 15) := by
    by_cases hc : w2 (b.drop t.toNat) 2 <= 15
    · rw [decide_eq_true hc, decide_eq_false (by omega)]; rfl
    · rw [decide_eq_false hc, decide_eq_true (by omega)]; rfl
   rw [hd]
   cases decide (lkK b t < 1) <;> cases decide (lkK b t > 256) <;> cases outR b (t + 6) (2 * lkK b t) <;> cases decide (w2 (b.drop t.toNat) 2 <= 15) <;> rfl
 refine aI (fun h5 => ?_) (fun h5 => ?_)
 · have h5 : (!okL b t) = true := hokE.symm.trans h5
   rw [Bool.not_eq_true'] at h5
   exact fun ρ S' w' hi => bad (badT h5) w' hi.below
 have h5 : (!okL b t) = false := hokE.symm.trans h5
 rw [Bool.not_eq_false'] at h5
 have hok := h5
 unfold okL at h5
 rw [Bool.and_eq_true, Bool.and_eq_true, Bool.and_eq_true, Bool.not_eq_true', Bool.not_eq_true', Bool.not_eq_true', Bool.or_eq_false_iff, decide_eq_false_iff_not, decide_eq_false_iff_not, decide_eq_true_iff] at h5
 obtain ⟨o6, ⟨k1, k2⟩, o2k, f15⟩ := h5
 have hr6 := (outR_iff.1 o6).2.2
 have hrk := (outR_iff.1 o2k).2.2
 have h4 : wF b (t + 4) = lkK b t := wF_at (p := 4) ht0.1 (by omega)
 have h2 : wF b (t + 2) = w2 (b.drop t.toNat) 2 := wF_at (p := 2) ht0.1 (by omega)
 have hw0 := w2_range (hB.drop t.toNat) 0
 have hw2r := w2_range (hB.drop t.toNat) 2
 refine Or.inl ⟨.int .i64 (w2 (b.drop t.toNat) 0), fun ρ S w hm => rw_c b t _ 0 hB (by omega) ht0.1 (by omega) (by rw [eT]; simp) _ w (hm.rd 0 rfl rfl), ?_⟩
 refine aI (show (2 : Int) ≠ 0 by omega) ?_
 obtain ⟨K, hK⟩ : ∃ K : Nat, K = (lkK b t).toNat := ⟨_, rfl⟩
 have hKw : lkK b t = (K : Int) := by omega
 have hat : (lkAt b t).at' = (List.range K).map fun j => t + w2 (b.drop t.toNat) (6 + 2 * j) := by unfold lkAt; rw [hK]
 rw [hKw] at hrk k1 k2 h4
 have ety : IntKind.u16.wrap (w2 (b.drop t.toNat) 0) = (lkAt b t).ty := u16w hw0
 have efl : IntKind.u16.wrap (IntKind.i64.wrap (IntKind.i64.wrap ((w2 (b.drop t.toNat) 2).tdiv 2) * 2)) = (lkAt b t).flag := flag_eq ⟨hw2r.1, f15⟩
 refine ⟨{ j : Nat // j <= K }, fun j => ⟨114, [⟨0, [], .sl 0⟩, ⟨1, [], .v (.int .i64 a)⟩, ⟨6, [], .v (.int .i64 (N : Int))⟩, ⟨7, [], .sl 1⟩, ⟨8, [], .v (.int .i64 (i : Nat))⟩, ⟨9, [], .v (.int .i64 t)⟩, ⟨10, [], .v (.int .i64 (K : Int))⟩, ⟨12, [], .bx 2 0⟩, ⟨13, [], .v (.int .i64 (j.1 : Nat))⟩], [.rd Int inferInstance 1 bE b, owTr ((List.range i).map fun i => lkAt b (lkT b a i)), .bx 134 [.v (.int .u16 (lkAt b t).ty), .v (.int .u16 (lkAt b t).flag), .sl 3], owZ ((List.range j.1).map fun j => t + w2 (b.drop t.toNat) (6 + 2 * j))], [], dropL nats 4⟩, fun j => K - j.1, ⟨[0, 1, 2, 1000], ⟨0, by omega⟩, ?_⟩, fun j => ?_⟩
 · refine aI (aI rfl (aI rfl (aI rfl (aI rfl (aI rfl (aI (svI eT) (aI (svI h4) (aI rfl (aI rfl trivial))))))))) (aI rfl (aI rfl (aI (aI rfl ?_) (aI rfl trivial))))
   exact cells3 (svI ety) (svI (by rw [h2]; exact efl)) rfl
 obtain ⟨j, hj⟩ := j
 refine aI (fun hjl => ?_) (fun hjg => ?_)
 rotate_left
 · have hjg : j = K := by
    have : ¬ ((j : Nat) : Int) < ((K : Nat) : Int) := of_decide_eq_false hjg
    omega
   refine ⟨[lkAt b t], ⟨rfl, by
    show [DV.v (.int .u16 (lkAt b t).ty), DV.v (.int .u16 (lkAt b t).flag), DV.sl Int inferInstance 1 zE ((List.range j).map fun j => t + w2 (b.drop t.toNat) (6 + 2 * j))] = [DV.v (.int .u16 (lkAt b t).ty), DV.v (.int .u16 (lkAt b t).flag), DV.sl Int inferInstance 1 zE (lkAt b t).at']
    rw [hat, hjg], fun y hy => rfl⟩, ?_, ?_⟩
   · show (((List.range i).map fun i => lkAt b (lkT b a i)).length + 1) * 32 <= _
     rw [List.length_map, List.length_range]; omega
   exact ⟨[0, 5], ⟨i + 1, hlt, fun q hq => by
    by_cases he : q = i
    · rw [he, <- ht]; exact hok
    · exact hall q (by omega)⟩, aI (aI rfl (aI rfl (aI rfl (aI rfl (aI (svI (i64_succ i (by omega))) trivial))))) (aI rfl (aI (owTre (hlast hok).symm) trivial)), by show N - (i + 1) < N - i; omega⟩
 have hjl : j < K := by
  have : ((j : Nat) : Int) < ((K : Nat) : Int) := of_decide_eq_true hjl
  omega
 have hwj := w2_range (hB.drop t.toNat) (6 + 2 * j)
 have e6j : IntKind.i64.wrap (IntKind.i64.wrap (t + 6) + IntKind.i64.wrap (2 * (j : Int))) = t + ((6 + 2 * j : Nat) : Int) := by rw [i64_id (t + 6) (by omega) (by omega), i64_id (2 * (j : Int)) (by omega) (by omega), i64_id _ (by omega) (by omega)]; omega
 refine Or.inr (Or.inr (Or.inl ⟨[0, 1, 2, 3, 4, 5, 6, 7, 8, 9, 10, 11], [11], [12, 13, 14], by kernel_rfl, ?_⟩))
 refine ⟨.int .i64 (w2 (b.drop t.toNat) (6 + 2 * j)), fun ρ S w hm => rw_c b t _ (6 + 2 * j) hB (by omega) ht0.1 (by omega) e6j _ w (hm.rd 0 rfl rfl), ?_⟩
 refine ⟨[IntKind.i64.wrap (t + w2 (b.drop t.toNat) (6 + 2 * j))], ⟨rfl, rfl, fun y hy => rfl⟩, ?_, ?_⟩
 · show (((List.range j).map fun j => t + w2 (b.drop t.toNat) (6 + 2 * j)).length + 1) * 8 <= _
   rw [List.length_map, List.length_range]; omega
 exact ⟨[0, 1, 2, 5], ⟨j + 1, hjl⟩, aI (aI rfl (aI rfl (aI rfl (aI rfl (aI rfl (aI rfl (aI rfl (aI rfl (aI (svI (i64_succ j (by omega))) trivial))))))))) (aI rfl (aI rfl (aI (aI rfl rfl) (aI (owZe (by rw [List.range_succ, List.map_append, i64_id (t + w2 (b.drop t.toNat) (6 + 2 * j)) (by omega) (by omega)]; rfl)) trivial)))), by show K - (j + 1) < K - j; omega⟩
end Go.Proofs.YtjflgkadagkllaaGreat
