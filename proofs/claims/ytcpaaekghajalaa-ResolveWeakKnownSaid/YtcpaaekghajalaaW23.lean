/- resolve.Weak: the first loop's state. -/
import Derived.Test.YtcpaaekghajalaaV5
namespace Go.Proofs.Ytcpaaekghajalaa
open Go Go.Eng Go.RowKit

/-- what stands behind W1 to W3, the row's BN among it -/
def aX (l : List Int) (s : Int) : List Int := mg (w2F s (w1F s (noBN l))) 0 l
structure FW (l : List Int) (s : Int) where
  i : Nat
  hi : i ≤ l.length
  out : List Int
  ho : out.length = l.length
  h1 : ∀ j, j < i → nth out j = nth (aX l s) j
def bAt (l : List Int) (s : Int) (i : Nat) : Int := (noBN (l.take i)).foldl w1t s
def nAt (l : List Int) (s : Int) (i : Nat) : Int := (w1F s (noBN (l.take i))).foldl w2t s
theorem w1F_snoc (c : Int) : ∀ (s : Int) (xs : List Int), w1F s (xs ++ [c]) = w1F s xs ++ [w1g (xs.foldl w1t s) c]
  | _, [] => rfl
  | s, a :: r => by
    have := w1F_snoc c (w1t s a) r
    unfold w1F at this ⊢
    simp only [List.cons_append, scan, List.foldl_cons, this]
theorem bAt_bn (l : List Int) (s : Int) (i : Nat) (h : i < l.length) (h10 : nth l i = 10) : bAt l s (i + 1) = bAt l s i ∧ nAt l s (i + 1) = nAt l s i := by
  unfold bAt nAt; rw [noBN_snoc l i h, if_pos h10]; exact ⟨rfl, rfl⟩
theorem bAt_step (l : List Int) (s : Int) (i : Nat) (h : i < l.length) (h10 : nth l i ≠ 10) : bAt l s (i + 1) = w1t (bAt l s i) (nth l i) ∧ nAt l s (i + 1) = w2t (nAt l s i) (w1g (bAt l s i) (nth l i)) := by
  unfold bAt nAt; rw [noBN_snoc l i h, if_neg h10, List.foldl_append, w1F_snoc, List.foldl_append]; exact ⟨rfl, rfl⟩
theorem take_prefix (l : List Int) (i : Nat) : ∃ r, noBN l = noBN (l.take i) ++ r := ⟨noBN (l.drop i), by
  conv => lhs; rw [← List.take_append_drop i l]
  exact List.filter_append ..⟩
theorem w1F_pre (s : Int) : ∀ (a b : List Int), (w1F s (a ++ b)).take a.length = w1F s a
  | [], _ => rfl
  | c :: r, b => by
    have := w1F_pre (w1t s c) r b
    unfold w1F at this ⊢
    simp only [List.cons_append, scan, List.length_cons, List.take_succ_cons, this]
theorem aX_at (l : List Int) (s : Int) (i : Nat) (h : i < l.length) (h10 : nth l i ≠ 10) : nth (aX l s) i = w3f (w2g (nAt l s i) (w1g (bAt l s i) (nth l i))) := by
  obtain ⟨g1, g2, g3, _⟩ := noBN_at l i h h10
  unfold aX
  rw [mg_nth _ _ _ _ h, if_neg h10, Nat.zero_add]
  obtain ⟨f1, _⟩ := first_at (noBN l) s (noBN (l.take i)).length g1
  rw [f1, g2, g3]
  obtain ⟨r, hr⟩ := take_prefix l i
  have h2 : (w1F s (noBN l)).take (noBN (l.take i)).length = w1F s (noBN (l.take i)) := by
    rw [hr]; exact w1F_pre s _ _
  rw [h2]; rfl
theorem aX_10 (l : List Int) (s : Int) (i : Nat) (h : i < l.length) (h10 : nth l i = 10) : nth (aX l s) i = 10 := by
  unfold aX; rw [mg_nth _ _ _ _ h, if_pos h10]
theorem aX_len (l : List Int) (s : Int) : (aX l s).length = l.length := mg_len _ _ _
def FW.put {l : List Int} {s : Int} (t : FW l s) (h : t.i < l.length) (o2 : List Int) (ho : o2.length = l.length) (hp : ∀ j, j ≠ t.i → nth o2 j = nth t.out j) (hv : nth o2 t.i = nth (aX l s) t.i) : FW l s where
  i := t.i + 1
  hi := h
  out := o2
  ho := ho
  h1 j hj := by
    by_cases e : j = t.i
    · rw [e]; exact hv
    · rw [hp j e]; exact t.h1 j (by omega)
theorem FW.all {l : List Int} {s : Int} (t : FW l s) (h : t.i = l.length) : t.out = aX l s := nth_ext (by rw [t.ho, aX_len]) (fun j hj => t.h1 j (by rw [t.ho] at hj; omega))

def w4p (Y1 : List Int) (k : Nat) : Int := if k = 0 then 10 else nth Y1 (k - 1)
def w4n (Y0 : List Int) (k : Nat) : Int := if k + 1 < Y0.length then nth Y0 (k + 1) else 10
theorem w4_at (Y0 : List Int) (k : Nat) (h : k < Y0.length) : nth (w4F 10 Y0) k = w4c (w4p (w4F 10 Y0) k) (w4n Y0 k) (nth Y0 k) := by
  rw [w4F_nth Y0 10 k h]
  congr 1
  unfold w4n
  split
  · rename_i h2; exact hd10_drop Y0 (k + 1) h2
  · rename_i h2; rw [List.drop_eq_nil_of_le (by omega)]; rfl
theorem InPl.atp {Y0 : List Int} (s : InPl Y0 (w4F 10 Y0)) {l : List Int} (hl : Y0.length = (noBN l).length) (h : s.i < Y0.length) : atF (mg s.row 0 l) (posL l) ((s.i : Int) - 1) = w4p (w4F 10 Y0) s.i ∧ atF (mg s.row 0 l) (posL l) ((s.i + 1 : Nat) : Int) = w4n Y0 s.i ∧ atF (mg s.row 0 l) (posL l) (s.i : Int) = nth Y0 s.i := by
  have hr := s.hr
  refine ⟨?_, ?_, ?_⟩
  · rw [atF_mg]
    unfold w4p
    by_cases h0 : s.i = 0
    · rw [if_pos (by omega), if_pos h0]
    · rw [if_neg (by omega), if_neg h0, show ((s.i : Int) - 1).toNat = s.i - 1 from by omega, s.h1 _ (by omega)]
  · rw [atF_mg]
    unfold w4n
    by_cases h0 : s.i + 1 < Y0.length
    · rw [if_neg (by omega), if_pos h0, Int.toNat_natCast, s.h2 _ (by omega) h0]
    · rw [if_pos (by omega), if_neg h0]
  · rw [atF_mg, if_neg (by omega), Int.toNat_natCast, s.h2 _ (Nat.le_refl _) h]

set_option maxHeartbeats 2000000 in
theorem weak_c (l : List Int) (sos : Int) (v : Value) (w : World) (hl : l.length ≤ 1000000) (hv : Rd w v 1 cE l) :
    Calls Try.prog 25 #[v, .int .u8 sos] w fun e w' => ∃ u, e = .returned u ∧ Below w.heap.size w w' ∧ Fresh w w' u 23 1 cE (weakX l sos) := by
  refine calls_exec (cf := cf) cfok (fn := Try.f25) Try.func25 rfl [.sl 0, .v (.int .u8 sos)] [.rd Int inferInstance 1 cE l] (ρ := fun _ => v) (· < w.heap.size) rfl rfl rfl (by simp [svOkL, svOk]) (memRd (fun _ h => h) ⟨hv, trivial⟩) ?_
  have hFl : (restC (wS sos) false (w4F 10 (w2F (wS sos) (w1F (wS sos) (noBN l))))).length = (noBN l).length := weakY_len (wS sos) (noBN l)
  refine Or.inr ⟨0, rest25, (Int × Int × Value × Value × Value) × TS (restC (wS sos) false (w4F 10 (w2F (wS sos) (w1F (wS sos) (noBN l))))), fun i => mkR l (wS sos) i.1.1 i.1.2.1 i.1.2.2.1 i.1.2.2.2.1 i.1.2.2.2.2 i.2, fun i => i.2.mu, by kernel_rfl, ?_, fun i => good_of_exec cfok rfl ?_⟩
  · refine And.intro (fun hs => ?_) (fun hs => ?_)
    case' refine_1 =>
      have hws : wS sos = 1 := by have : ¬ sos = 2 := by simpa using hs
                                  simp [wS, this]
    case' refine_2 =>
      have hws : wS sos = sos := by have : sos = 2 := by simpa using hs
                                    simp [wS, this]
    all_goals
      refine ⟨Int, inferInstance, cE, 0, rfl, by omega, by show 1 * _ ≤ _; omega, by omega, rfl, ?_⟩
      refine ⟨FW l (wS sos), fun t => ⟨187, [⟨1, [], .v (.int .u8 (wS sos))⟩, ⟨5, [], .bx 4 0⟩, ⟨26, [], .sl 0⟩, ⟨27, [], .v (.int .i64 l.length)⟩, ⟨28, [], .v (.int .i64 t.i)⟩], chW l t.out (posL (l.take t.i)) (bAt l (wS sos) t.i) (nAt l (wS sos) t.i), [], dropL nats 5⟩, fun t => l.length - t.i,
        ⟨[0, 1, 1000, 2, 3], ⟨0, by omega, List.replicate l.length 0, by simp, fun j h => by omega⟩, ?_⟩, fun t => ?_⟩
      · exact And.intro (And.intro (svu hws.symm) (And.intro rfl (And.intro rfl (And.intro rfl (And.intro rfl trivial))))) (And.intro rfl (And.intro rfl (And.intro rfl (And.intro (And.intro rfl (by rw [show bAt l (wS sos) 0 = wS sos from rfl, show nAt l (wS sos) 0 = wS sos from rfl, hws]; rfl)) (And.intro (And.intro rfl rfl) trivial)))))
      have hti := t.hi
      have hto := t.ho
      refine And.intro (fun hlt => ?_) (fun hge => ?_)
      · have hlt : t.i < l.length := by simpa using hlt
        have hps := posL_snoc l t.i hlt
        have hpl : (posL (l.take t.i)).length ≤ l.length := by rw [posL_len]; have := noBN_len (l.take t.i); simp at this; omega
        refine And.intro ⟨by omega, by omega⟩ ?_
        refine And.intro ⟨by omega, by omega⟩ ?_
        refine ⟨_, rfl, rfl, ?_⟩
        refine And.intro (fun hne => ?_) (fun he => ?_)
        · have hne : ¬ nth l t.i = 10 := by simpa using hne
          rw [if_neg hne] at hps
          obtain ⟨hb1, hb2⟩ := bAt_step l (wS sos) t.i hlt hne
          refine Or.inr (Or.inr (Or.inr ⟨[0, 1, 2, 3, 4, 5, 6], [7], [8, 9], [(3, some [2, 3])], by kernel_rfl, ?_⟩))
          refine ⟨_, ⟨rfl, rfl⟩, fun xs => ⟨rfl, rfl⟩, ?_⟩
          refine ⟨_, ⟨rfl, rfl⟩, fun xs => ⟨rfl, rfl⟩, ?_⟩
          refine ⟨_, ⟨rfl, rfl⟩, fun xs => ⟨rfl, rfl⟩, ?_⟩
          refine ⟨_, ⟨rfl, rfl⟩, fun xs => ⟨rfl, rfl⟩, ?_⟩
          refine ⟨_, ⟨rfl, rfl⟩, fun xs => ⟨rfl, rfl⟩, ?_⟩
          refine ⟨_, ⟨rfl, rfl⟩, fun xs => ⟨rfl, rfl⟩, ?_⟩
          refine ⟨_, ⟨rfl, rfl⟩, fun xs => ⟨rfl, rfl⟩, ?_⟩
          refine Or.inr (lcall_sub [1, 2, 3] (first_s (t.out.set (t.i : Int).toNat (nth l (t.i : Int).toNat)) (posL (l.take t.i)) (bAt l (wS sos) t.i) (nAt l (wS sos) t.i) (nth l (t.i : Int).toNat)) rfl rfl rfl rfl rfl (And.intro rfl (And.intro rfl (And.intro (And.intro rfl rfl) trivial))) ⟨rfl, fun xs => rfl, ?_⟩)
          refine And.intro ⟨by omega, by simp; omega⟩ ?_
          refine ⟨_, rfl, rfl, ?_⟩
          refine Or.inr (Or.inr (Or.inr ⟨[0, 1, 2, 3, 4, 5], [6, 7], [8, 9, 10], [(2, none)], by kernel_rfl, ?_⟩))
          refine ⟨_, ⟨rfl, rfl⟩, fun xs => ⟨rfl, rfl⟩, ?_⟩
          refine ⟨_, ⟨rfl, rfl⟩, fun xs => ⟨rfl, rfl⟩, ?_⟩
          refine ⟨_, ⟨rfl, rfl⟩, fun xs => ⟨rfl, rfl⟩, ?_⟩
          refine ⟨_, ⟨rfl, rfl⟩, fun xs => ⟨rfl, rfl⟩, ?_⟩
          refine ⟨_, ⟨rfl, rfl⟩, fun xs => ⟨rfl, rfl⟩, ?_⟩
          refine ⟨_, ⟨rfl, rfl⟩, fun xs => ⟨rfl, rfl⟩, ?_⟩
          refine ⟨rfl, fun xs => rfl, ?_⟩
          refine ⟨[t.i], And.intro rfl (And.intro rfl (fun y hy => rfl)), by show ((posL (l.take t.i)).length + 1) * 8 ≤ _; omega, ⟨rfl, fun xs => rfl, ?_⟩⟩
          have hv2 := aX_at l (wS sos) t.i hlt hne
          refine ⟨[0, 1, 6, 3, 4], t.put hlt ((t.out.set (t.i : Int).toNat (nth l (t.i : Int).toNat)).set (t.i : Int).toNat (w3f (w2g (nAt l (wS sos) t.i) (w1g (bAt l (wS sos) t.i) (nth l (t.i : Int).toNat))))) (by simp [hto]) (fun j hj => by
            rw [Int.toNat_natCast, nth_set _ _ _ _ (by simp; omega), if_neg hj, nth_set _ _ _ _ (by omega), if_neg hj]) (by rw [Int.toNat_natCast, nth_set _ _ _ _ (by simp; omega), if_pos rfl, hv2]),
            And.intro (And.intro rfl (And.intro rfl (And.intro rfl (And.intro rfl (And.intro (sv_i64 (i64_succ t.i (by omega))) trivial))))) (And.intro rfl (And.intro rfl (And.intro ?_ (And.intro (And.intro rfl ?_) (And.intro (And.intro rfl rfl) trivial))))), by show _ - (t.i + 1) < _ - t.i; omega⟩
          · show op (posL (l.take t.i) ++ [t.i]) = op (posL (l.take (t.i + 1)))
            rw [hps]
          · show ([SV.sl 1, SV.sl 6, .v (.int .u8 (w1t (bAt l (wS sos) t.i) (nth l t.i))), .v (.int .u8 (w2t (nAt l (wS sos) t.i) (w1g (bAt l (wS sos) t.i) (nth l t.i))))] : List SV) = [.sl 1, .sl 6, .v (.int .u8 (bAt l (wS sos) (t.i + 1))), .v (.int .u8 (nAt l (wS sos) (t.i + 1)))]
            rw [hb1, hb2]
        · have he : nth l t.i = 10 := by simpa using he
          rw [if_pos he] at hps
          obtain ⟨hb1, hb2⟩ := bAt_bn l (wS sos) t.i hlt he
          have hv2 := aX_10 l (wS sos) t.i hlt he
          refine ⟨[0, 1, 2, 3, 4], t.put hlt (t.out.set (t.i : Int).toNat (nth l (t.i : Int).toNat)) (by simp [hto]) (fun j hj => by
            rw [Int.toNat_natCast, nth_set _ _ _ _ (by omega), if_neg hj]) (by rw [Int.toNat_natCast, nth_set _ _ _ _ (by omega), if_pos rfl, hv2, he]),
            And.intro (And.intro rfl (And.intro rfl (And.intro rfl (And.intro rfl (And.intro (sv_i64 (i64_succ t.i (by omega))) trivial))))) (And.intro rfl (And.intro rfl (And.intro ?_ (And.intro (And.intro rfl ?_) (And.intro (And.intro rfl rfl) trivial))))), by show _ - (t.i + 1) < _ - t.i; omega⟩
          · show op (posL (l.take t.i)) = op (posL (l.take (t.i + 1)))
            rw [hps]
          · show ([SV.sl 1, SV.sl 2, .v (.int .u8 (bAt l (wS sos) t.i)), .v (.int .u8 (nAt l (wS sos) t.i))] : List SV) = [.sl 1, .sl 2, .v (.int .u8 (bAt l (wS sos) (t.i + 1))), .v (.int .u8 (nAt l (wS sos) (t.i + 1)))]
            rw [hb1, hb2]
      · have hge : t.i = l.length := by
          have : ¬ t.i < l.length := by simpa using hge
          omega
        have hout := t.all hge
        have htk : l.take t.i = l := by rw [hge, List.take_length]
        obtain ⟨Y0, hY0⟩ : ∃ Y0, Y0 = w2F (wS sos) (w1F (wS sos) (noBN l)) := ⟨_, rfl⟩
        have hY0l : Y0.length = (noBN l).length := by rw [hY0, w2F_len, w1F_len]
        have hnl := noBN_len l
        have hY1l : (w4F 10 Y0).length = Y0.length := w4F_len _ _
        have hpl : (posL l).length = Y0.length := by rw [posL_len, hY0l]
        refine ⟨InPl Y0 (w4F 10 Y0), fun q => ⟨187, [⟨1, [], .v (.int .u8 (wS sos))⟩, ⟨5, [], .bx 4 0⟩, ⟨8, [], .fn 36 [.bx 4 0]⟩, ⟨67, [], .v (.int .i64 Y0.length)⟩, ⟨68, [], .v (.int .i64 q.i)⟩], chW l (mg q.row 0 l) (posL l) (bAt l (wS sos) t.i) (nAt l (wS sos) t.i), [], dropL nats 5⟩, fun q => Y0.length - q.i,
          ⟨[0, 1, 2, 3, 4], InPl.start _ _, ?_⟩, fun q => ?_⟩
        · exact And.intro (And.intro rfl (And.intro rfl (And.intro rfl (And.intro (by show SV.v (.int .i64 ((posL (l.take t.i)).length : Nat)) = SV.v (.int .i64 (Y0.length : Nat)); rw [htk, hpl]) (And.intro rfl trivial))))) (And.intro rfl (And.intro (by show ow t.out = ow (mg Y0 0 l); rw [hout, hY0]; rfl) (And.intro (by show op (posL (l.take t.i)) = op (posL l); rw [htk]) (And.intro (And.intro rfl rfl) (And.intro (And.intro rfl rfl) trivial)))))
        have hqi := q.hi
        have hqr := q.hr
        have hml : (mg q.row 0 l).length ≤ 1000000 := by rw [mg_len]; exact hl
        refine And.intro (fun hlt => ?_) (fun hge => ?_)
        · have hlt : q.i < Y0.length := by simpa using hlt
          obtain ⟨a1, a2, a3⟩ := q.atp hY0l hlt
          have es : IntKind.i64.wrap ((q.i : Int) + 1) = ((q.i + 1 : Nat) : Int) := i64_succ q.i (by omega)
          have ep : IntKind.i64.wrap ((q.i : Int) - 1) = (q.i : Int) - 1 := i64_id _ (by omega) (by omega)
          rw [← ep] at a1
          rw [← es] at a2
          have hy := w4_at Y0 q.i hlt
          refine Or.inl ⟨by kernel_rfl, ?_⟩
          refine ⟨_, fun ρ S w' hm => at_c _ _ _ _ _ _ w' (posL_in _ _) hml (rowR hm 1 2 3 rfl rfl rfl rfl rfl rfl), ?_⟩
          refine ⟨_, fun ρ S w' hm => at_c _ _ _ _ _ _ w' (posL_in _ _) hml (rowR hm 1 2 3 rfl rfl rfl rfl rfl rfl), ?_⟩
          refine Or.inl ⟨_, fun ρ S w' hm => at_c _ _ _ _ _ _ w' (posL_in _ _) hml (rowR hm 1 2 3 rfl rfl rfl rfl rfl rfl), ?_⟩
          have hz : ∀ (b : Bool), b = false → b = true → False := by intro b h1 h2; rw [h1] at h2; cases h2
          refine And.intro (fun hab => ?_) (fun hab => ?_)
          · have hab : ¬ atF (mg q.row 0 l) (posL l) (IntKind.i64.wrap ((q.i : Int) - 1)) = atF (mg q.row 0 l) (posL l) (IntKind.i64.wrap ((q.i : Int) + 1)) := by simpa using hab
            rw [a1, a2] at hab
            have hg : nth (w4F 10 Y0) q.i = nth Y0 q.i := by rw [hy, w4c, if_neg (fun h => hab h.1)]
            exact ⟨[0, 1, 2, 3, 4], q.keep hlt hg, And.intro (And.intro rfl (And.intro rfl (And.intro rfl (And.intro rfl (And.intro (sv_i64 (i64_succ q.i (by omega))) trivial))))) (And.intro rfl (And.intro rfl (And.intro rfl (And.intro (And.intro rfl rfl) (And.intro (And.intro rfl rfl) trivial))))), by show _ - (q.i + 1) < _ - q.i; omega⟩
          · have hab : atF (mg q.row 0 l) (posL l) (IntKind.i64.wrap ((q.i : Int) - 1)) = atF (mg q.row 0 l) (posL l) (IntKind.i64.wrap ((q.i : Int) + 1)) := by simpa using hab
            rw [a1, a2] at hab
            refine And.intro (fun h4 => ?_) (fun h4 => ?_)
            · refine And.intro (fun _ => ?_) (fun h => (hz _ h h4).elim)
              have h4 : atF (mg q.row 0 l) (posL l) (IntKind.i64.wrap ((q.i : Int) - 1)) = 4 ∧ (atF (mg q.row 0 l) (posL l) (q.i : Int) = 5 ∨ atF (mg q.row 0 l) (posL l) (q.i : Int) = 8) := by simpa using h4
              have hg : nth (w4F 10 Y0) q.i = atF (mg q.row 0 l) (posL l) (IntKind.i64.wrap ((q.i : Int) - 1)) := by
                rw [a1, a3] at h4
                rw [a1, hy, w4c, if_pos ⟨hab, .inl h4⟩]
              refine Or.inr (lcall_sub [1, 2, 3, 4] (put_s (mg q.row 0 l) (posL l) (bAt l (wS sos) t.i) (nAt l (wS sos) t.i) (atF (mg q.row 0 l) (posL l) (IntKind.i64.wrap ((q.i : Int) - 1))) q.i (by omega) (posL_in _ _ _ (by omega))) rfl rfl rfl rfl rfl (And.intro rfl (And.intro rfl (And.intro (And.intro rfl rfl) (And.intro (And.intro rfl rfl) trivial)))) ?_)
              have hset := mg_set q.row l q.i (atF (mg q.row 0 l) (posL l) (IntKind.i64.wrap ((q.i : Int) - 1))) (by omega) (by omega)
              exact ⟨[0, 1, 2, 3, 4], q.put hlt _ hg, And.intro (And.intro rfl (And.intro rfl (And.intro rfl (And.intro rfl (And.intro (sv_i64 (i64_succ q.i (by omega))) trivial))))) (And.intro rfl (And.intro (ownEq hset) (And.intro rfl (And.intro (And.intro rfl rfl) (And.intro (And.intro rfl rfl) trivial))))), by show _ - (q.i + 1) < _ - q.i; omega⟩
            · have h4 : ¬ (atF (mg q.row 0 l) (posL l) (IntKind.i64.wrap ((q.i : Int) - 1)) = 4 ∧ (atF (mg q.row 0 l) (posL l) (q.i : Int) = 5 ∨ atF (mg q.row 0 l) (posL l) (q.i : Int) = 8)) := fun hh => hz _ h4 (by simpa using hh)
              refine And.intro (fun h7 => ?_) (fun h7 => ?_)
              · have h7 : atF (mg q.row 0 l) (posL l) (IntKind.i64.wrap ((q.i : Int) - 1)) = 7 ∧ atF (mg q.row 0 l) (posL l) (q.i : Int) = 8 := by simpa using h7
                have hg : nth (w4F 10 Y0) q.i = atF (mg q.row 0 l) (posL l) (IntKind.i64.wrap ((q.i : Int) - 1)) := by
                  rw [a1, a3] at h7
                  rw [a1, hy, w4c, if_pos ⟨hab, .inr h7⟩]
                refine Or.inr (lcall_sub [1, 2, 3, 4] (put_s (mg q.row 0 l) (posL l) (bAt l (wS sos) t.i) (nAt l (wS sos) t.i) (atF (mg q.row 0 l) (posL l) (IntKind.i64.wrap ((q.i : Int) - 1))) q.i (by omega) (posL_in _ _ _ (by omega))) rfl rfl rfl rfl rfl (And.intro rfl (And.intro rfl (And.intro (And.intro rfl rfl) (And.intro (And.intro rfl rfl) trivial)))) ?_)
                have hset := mg_set q.row l q.i (atF (mg q.row 0 l) (posL l) (IntKind.i64.wrap ((q.i : Int) - 1))) (by omega) (by omega)
                exact ⟨[0, 1, 2, 3, 4], q.put hlt _ hg, And.intro (And.intro rfl (And.intro rfl (And.intro rfl (And.intro rfl (And.intro (sv_i64 (i64_succ q.i (by omega))) trivial))))) (And.intro rfl (And.intro (ownEq hset) (And.intro rfl (And.intro (And.intro rfl rfl) (And.intro (And.intro rfl rfl) trivial))))), by show _ - (q.i + 1) < _ - q.i; omega⟩
              · have h7 : ¬ (atF (mg q.row 0 l) (posL l) (IntKind.i64.wrap ((q.i : Int) - 1)) = 7 ∧ atF (mg q.row 0 l) (posL l) (q.i : Int) = 8) := fun hh => hz _ h7 (by simpa using hh)
                rw [a1, a3] at h4 h7
                have hg : nth (w4F 10 Y0) q.i = nth Y0 q.i := by rw [hy, w4c, if_neg (fun h => h.2.elim h4 h7)]
                exact ⟨[0, 1, 2, 3, 4], q.keep hlt hg, And.intro (And.intro rfl (And.intro rfl (And.intro rfl (And.intro rfl (And.intro (sv_i64 (i64_succ q.i (by omega))) trivial))))) (And.intro rfl (And.intro rfl (And.intro rfl (And.intro (And.intro rfl rfl) (And.intro (And.intro rfl rfl) trivial))))), by show _ - (q.i + 1) < _ - q.i; omega⟩
        · have hge : q.i = Y0.length := by have : ¬ (q.i : Int) < (Y0.length : Nat) := by simpa using hge
                                           omega
          have hrow := q.all hge hY1l
          have hres : weakX l sos = mg (restC (wS sos) false (w4F 10 Y0)) 0 l := by rw [hY0]; rfl
          rw [← hY0] at hFl
          refine weak_rest (Fin := restC (wS sos) false (w4F 10 Y0)) l (wS sos) (bAt l (wS sos) t.i) (nAt l (wS sos) t.i) (.bool (decide ((q.i : Int) < (Y0.length : Nat)))) (.int .i64 (Y0.length : Nat)) (.int .i64 q.i) hFl hl ⟨q.row, 0, wS sos, false, by rw [q.hr, hFl, hY0l], by omega, by rw [hrow]; rfl, fun _ _ => ⟨fun e => (by cases e), fun e => by omega⟩⟩ _ ?_ ?_
          · refine fun E ids ρ S w' hi => ⟨_, rfl, hi.below, ?_⟩
            rw [hres]
            exact hi.fresh 1 cE_flat rfl rfl
          · rw [← hY0]
            exact fun st' t' h1 _ => ⟨rfl, [0, 1, 2, 3, 4], ((bAt l (wS sos) t.i, nAt l (wS sos) t.i, .bool (decide ((q.i : Int) < (Y0.length : Nat))), .int .i64 (Y0.length : Nat), .int .i64 q.i), t'), h1⟩
  · refine weak_rest l (wS sos) i.1.1 i.1.2.1 i.1.2.2.1 i.1.2.2.2.1 i.1.2.2.2.2 hFl hl i.2 _ ?_ ?_
    · refine fun E ids ρ S w' hi => ⟨_, rfl, hi.below, ?_⟩
      exact hi.fresh 1 cE_flat rfl rfl
    · exact fun st' t' h1 h2 => ⟨rfl, [0, 1, 2, 3, 4], (i.1, t'), h1, h2⟩
end Go.Proofs.Ytcpaaekghajalaa
