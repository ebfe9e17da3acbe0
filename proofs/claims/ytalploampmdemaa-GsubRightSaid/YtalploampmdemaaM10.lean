/- gsub.Parse. -/
import Derived.Test.YtalploampmdemaaM9
set_option maxRecDepth 100000
set_option linter.unusedVariables false
namespace Go.Proofs.Ytalploampmdemaa
open Go Go.Eng Go.RowKit

set_option maxHeartbeats 2000000 in
theorem parse_s (b : List Int) (g : Int) (hB : Byt b) (hb : b.length ≤ 100000) (X : Option (List Lk × List Feat)) (hX : parseX b g = X) : LCall Try.prog ⟨0, [], rdC b false, [], []⟩ 6 [.bx 2 0, .v (.int .i64 g)] (fun st' s => st'.ch = parC b X ∧ s = parR X) := by
  refine lcall_execD (cf := cf) cfok (fn := Try.f6) Try.func6 rfl _ _ (parC b X) (parR X) rfl rfl (by simp [svOkL, svOk]) rfl (fun ρ0 S0 w0 hm0 => ?_)
  have w0r := wA_range hB 0
  have w2r := wA_range hB 2
  have w6r := wA_range hB 6
  have w8r := wA_range hB 8
  refine Or.inl ⟨.bool false, fun ρ S w hm => bad_c b _ w (hm.rep 40 (.bx 2 0) (.ptr (rdD b)) rfl rfl), ?_⟩
  refine Or.inl ⟨.int .i64 (b.length : Nat), fun _ ρ S w hm => len_c b _ w (hm.rep 40 (.bx 2 0) (.ptr (rdD b)) rfl rfl), ?_⟩
  refine Or.inl ⟨.int .u16 (wA b 0), fun hg ρ S w hm => by
    have hg : ((!false) && decide ((b.length : Int) ≥ 10)) = true := hg
    have hg := of_decide_eq_true (by rw [Bool.and_eq_true] at hg; exact hg.2)
    exact word_x b 0 0 0 hB (by omega) (by omega) (by omega) (by simp) _ w (hm.rep 40 (.bx 2 0) (.ptr (rdD b)) rfl rfl), ?_⟩
  refine Or.inl ⟨.int .u16 (wA b 2), fun hg ρ S w hm => by
    have hg : (((!false) && decide ((b.length : Int) ≥ 10)) && decide (wA b 0 = 1)) = true := hg
    have hg := of_decide_eq_true (by rw [Bool.and_eq_true, Bool.and_eq_true] at hg; exact hg.1.2)
    exact word_x b 2 2 0 hB (by omega) (by omega) (by omega) (by simp) _ w (hm.rep 40 (.bx 2 0) (.ptr (rdD b)) rfl rfl), ?_⟩
  refine Or.inr (lcall_need _ (fun h1 => ?_) (fun h1 => ?_))
  rotate_left
  · have h1 : ((((!false) && decide ((b.length : Int) ≥ 10)) && decide (wA b 0 = 1)) && decide (wA b 2 = 0)) = false := h1
    have hn : X = none := by
      rw [← hX]
      unfold parseX
      by_cases c1 : (b.length : Int) ≥ 10
      · rw [if_neg (fun h => h c1)]
        by_cases c2 : wA b 0 = 1
        · rw [if_neg (fun h => h c2)]
          by_cases c3 : wA b 2 = 0
          · rw [decide_eq_true c1, decide_eq_true c2, decide_eq_true c3] at h1; cases h1
          · rw [if_pos c3]
        · rw [if_pos c2]
      · rw [if_pos c1]
    exact And.intro rfl (dcall_sub [4, 5, 6] (rec_a 0) rfl rfl rfl rfl rfl (And.intro (And.intro rfl rfl) (And.intro (And.intro rfl rfl) (And.intro (And.intro rfl rfl) trivial))) (fun ρ1 S1 w1 hi => failX hn hm0 hi rfl (And.intro trivial (And.intro rfl (And.intro trivial trivial))) rfl))
  have h1 : ((((!false) && decide ((b.length : Int) ≥ 10)) && decide (wA b 0 = 1)) && decide (wA b 2 = 0)) = true := h1
  rw [Bool.and_eq_true, Bool.and_eq_true, Bool.and_eq_true, decide_eq_true_iff, decide_eq_true_iff, decide_eq_true_iff] at h1
  obtain ⟨⟨⟨_, c1⟩, c2⟩, c3⟩ := h1
  unfold parseX at hX
  rw [if_neg (fun h => h c1), if_neg (fun h => h c2), if_neg (fun h => h c3)] at hX
  refine Or.inl ⟨.int .u16 (wA b 8), fun ρ S w hm => word_x b 8 8 0 hB (by omega) (by omega) (by omega) (by simp) _ w (hm.rep 40 (.bx 2 0) (.ptr (rdD b)) rfl rfl), ?_⟩
  have e8 : IntKind.i64.wrap (wA b 8) = wA b 8 := i64_id _ (by omega) (by omega)
  have e6 : IntKind.i64.wrap (wA b 6) = wA b 6 := i64_id _ (by omega) (by omega)
  cases hlk : lookX b (wA b 8) with
  | none =>
    rw [hlk] at hX
    refine Or.inr (lcall_sub [0, 1, 2] (look_no b (wA b 8) hB hb e8 hlk) (congrArg (fun z : Int => [SV.bx 2 0, .v (.int .i64 z)]) e8) rfl rfl rfl rfl (And.intro (And.intro rfl rfl) (And.intro rfl (And.intro (And.intro rfl rfl) trivial))) ?_)
    refine Or.inr (lcall_need _ (fun h => absurd (of_decide_eq_true h : (50 : Int) = 0) (by decide)) (fun _ => ?_))
    exact And.intro rfl (dcall_sub [4, 5, 6] (rec_a 50) rfl rfl rfl rfl rfl (And.intro (And.intro rfl rfl) (And.intro (And.intro rfl rfl) (And.intro (And.intro rfl rfl) trivial))) (fun ρ1 S1 w1 hi => failX hX.symm hm0 hi rfl (And.intro trivial (And.intro rfl (And.intro trivial trivial))) rfl))
  | some ts =>
  rw [hlk] at hX
  simp only at hX
  obtain ⟨hts, hat⟩ := tab_ats hB hb hlk
  refine Or.inr (lcall_sub [0, 1, 2] (look_ok b (wA b 8) ts hB hb e8 hlk) (congrArg (fun z : Int => [SV.bx 2 0, .v (.int .i64 z)]) e8) rfl rfl rfl rfl (And.intro (And.intro rfl rfl) (And.intro rfl (And.intro (And.intro rfl rfl) trivial))) ?_)
  refine Or.inr (lcall_need _ (fun _ => ?_) (fun h => absurd rfl (of_decide_eq_false h)))
  refine Or.inl ⟨.int .u16 (wA b 6), fun ρ S w hm => word_x b 6 6 0 hB (by omega) (by omega) (by omega) (by simp) _ w (hm.rep 40 (.bx 2 0) (.ptr (rdD b)) rfl rfl), ?_⟩
  cases hft : featX b (wA b 6) (ts.length : Int) with
  | none =>
    rw [hft] at hX
    refine Or.inr (lcall_sub [0, 1, 2] (feat_no b (wA b 6) (ts.length : Int) hB hb e6 hft) (congrArg (fun z : Int => [SV.bx 2 0, .v (.int .i64 z), .v (.int .i64 (ts.length : Int))]) e6) rfl rfl rfl rfl (And.intro (And.intro rfl rfl) (And.intro rfl (And.intro (And.intro rfl rfl) trivial))) ?_)
    refine Or.inr (lcall_need _ (fun h => absurd (of_decide_eq_true h : (50 : Int) = 0) (by decide)) (fun _ => ?_))
    exact And.intro rfl (dcall_sub [4, 5, 6] (rec_a 50) rfl rfl rfl rfl rfl (And.intro (And.intro rfl rfl) (And.intro (And.intro rfl rfl) (And.intro (And.intro rfl rfl) trivial))) (fun ρ1 S1 w1 hi => failX hX.symm hm0 hi rfl (And.intro trivial (And.intro rfl (And.intro trivial trivial))) rfl))
  | some fs =>
  rw [hft] at hX
  simp only at hX
  refine Or.inr (lcall_sub [0, 1, 2] (feat_ok b (wA b 6) (ts.length : Int) fs hB hb e6 hft) (congrArg (fun z : Int => [SV.bx 2 0, .v (.int .i64 z), .v (.int .i64 (ts.length : Int))]) e6) rfl rfl rfl rfl (And.intro (And.intro rfl rfl) (And.intro rfl (And.intro (And.intro rfl rfl) trivial))) ?_)
  refine Or.inr (lcall_need _ (fun _ => ?_) (fun h => absurd rfl (of_decide_eq_false h)))
  refine ⟨St1 b g ts fs X, fun q => ⟨103, [⟨0, [], .bx 2 0⟩, ⟨1, [], .v (.int .i64 g)⟩, ⟨4, [], .bx 4 0⟩, ⟨5, [], .bx 5 0⟩, ⟨6, [], .bx 6 0⟩, ⟨7, [], .sl 7⟩, ⟨59, [], .sl 7⟩, ⟨60, [], .v (.int .i64 (ts.length : Nat))⟩, ⟨61, [], .v (.int .i64 (q.i : Nat))⟩], rdC b false ++ [.dead, .bx 24 [.sl 9], .bx 25 [.sl 8], .bx 26 [.v (.int .i64 0)], owT ts, owF fs, owLk q.acc], [], dropL nats 10⟩, fun q => ts.length - q.i, ⟨[0, 1, 2, 3, 4, 5, 6, 7, 8, 1000], ⟨0, [], by omega, rfl, hX⟩, ?_⟩, fun q => ?_⟩
  · exact And.intro (And.intro rfl (And.intro rfl (And.intro rfl (And.intro rfl (And.intro rfl (And.intro rfl (And.intro rfl (And.intro rfl (And.intro rfl trivial))))))))) (And.intro (And.intro rfl rfl) (And.intro rfl (And.intro (And.intro rfl rfl) (And.intro trivial (And.intro (And.intro rfl rfl) (And.intro (And.intro rfl rfl) (And.intro (And.intro rfl rfl) (And.intro rfl (And.intro rfl (And.intro rfl trivial))))))))))
  obtain ⟨i, acc, hi, hl, he⟩ := q
  refine And.intro (fun hlt => ?_) (fun hge => ?_)
  rotate_left
  · have hge : i = ts.length := by
      have : ¬ ((i : Nat) : Int) < ((ts.length : Nat) : Int) := of_decide_eq_false hge
      omega
    subst hge
    rw [List.drop_length] at he
    have he : some (acc, fs) = X := he
    subst he
    refine Or.inr (Or.inr (Or.inr ⟨[1], [0, 2], [3, 4], [(4, some [0])], by kernel_rfl, ?_⟩))
    refine ⟨_, ⟨rfl, rfl⟩, fun xs => ⟨rfl, rfl⟩, ?_⟩
    refine ⟨rfl, fun xs => rfl, ?_⟩
    refine ⟨rfl, fun xs => rfl, ?_⟩
    refine And.intro rfl (dcall_sub [4, 5, 6, 9, 8] (rec_r acc fs) rfl rfl rfl rfl rfl (And.intro (And.intro rfl rfl) (And.intro (And.intro rfl rfl) (And.intro (And.intro rfl rfl) (And.intro rfl (And.intro rfl trivial))))) ?_)
    exact fun ρ1 S1 w1 hi => lend [0, 1, 2, 9, 8] hm0 hi rfl rfl (by exact ⟨trivial, ⟨Nat.le_refl _, rfl⟩, trivial, trivial⟩) rfl rfl rfl rfl (And.intro trivial (And.intro rfl (And.intro trivial (And.intro rfl (And.intro rfl trivial))))) rfl
  have hlt : i < ts.length := by
    have : ((i : Nat) : Int) < ((ts.length : Nat) : Int) := of_decide_eq_true hlt
    omega
  have hdr : ts.drop i = nth ts i :: ts.drop (i + 1) := by
    unfold nth
    rw [List.drop_eq_getElem_cons hlt, List.getD_eq_getElem?_getD, List.getElem?_eq_getElem hlt]; rfl
  rw [hdr] at he
  refine And.intro (show (0 : Int) ≤ (i : Int) ∧ (i : Int) < (ts.length : Int) from ⟨by omega, by omega⟩) ?_
  obtain ⟨t, ht⟩ : ∃ t, t = nth ts i := ⟨_, rfl⟩
  have htm : t ∈ ts := by
    rw [ht]; unfold nth
    rw [List.getD_eq_getElem?_getD, List.getElem?_eq_getElem hlt]
    exact List.getElem_mem hlt
  obtain ⟨a1, a2, a3, a4⟩ := hat t htm
  rw [← ht] at he
  by_cases hk : t.ty = 1
  · rw [lLoop, if_pos (show known t.ty from .inl hk)] at he
    refine Or.inr (lcall_sub [0, 1, 2, 12] (by_1 b g (ts.length : Int) 0 t.ty hk) (by rw [ht]; rfl) rfl rfl rfl rfl (And.intro (And.intro rfl rfl) (And.intro rfl (And.intro (And.intro rfl rfl) (And.intro (And.intro rfl rfl) trivial)))) ?_)
    refine ⟨St2 b g ts fs t i acc X, fun q => ⟨103, [⟨0, [], .bx 2 0⟩, ⟨1, [], .v (.int .i64 g)⟩, ⟨4, [], .bx 4 0⟩, ⟨5, [], .bx 5 0⟩, ⟨6, [], .bx 6 0⟩, ⟨7, [], .sl 7⟩, ⟨11, [], .mv 41 [.bx 11 0] []⟩, ⟨12, [], .bx 12 0⟩, ⟨59, [], .sl 7⟩, ⟨60, [], .v (.int .i64 (ts.length : Nat))⟩, ⟨61, [], .v (.int .i64 (i : Nat))⟩, ⟨81, [], .sl 10⟩, ⟨82, [], .v (.int .i64 (t.at'.length : Nat))⟩, ⟨83, [], .v (.int .i64 (q.j : Nat))⟩], rdC b false ++ [.dead, .bx 24 [.sl 9], .bx 25 [.sl 8], .bx 26 [.v (.int .i64 0)], owT ts, owF fs, owLk acc, .rd Int inferInstance 1 zE t.at', .bx 77 [.bx 2 0, .v (.int .i64 g), .v (.int .i64 (ts.length : Int)), .v (.int .i64 q.s)], .bx 35 [.v (.int .u16 t.ty), .v (.int .u16 t.flag), .sl 13, nilS], owSu q.acc], [], dropL nats 14⟩, fun q => t.at'.length - q.j, ⟨[0, 1, 2, 3, 4, 5, 6, 7, 8, 9, 10, 12, 13, 1000], ⟨0, 0, [], by omega, ⟨by omega, by omega⟩, rfl, he⟩, ?_⟩, fun q => ?_⟩
    · subst ht; exact And.intro (And.intro rfl (And.intro rfl (And.intro rfl (And.intro rfl (And.intro rfl (And.intro rfl (And.intro rfl (And.intro rfl (And.intro rfl (And.intro rfl (And.intro rfl (And.intro rfl (And.intro rfl (And.intro rfl trivial)))))))))))))) (And.intro (And.intro rfl rfl) (And.intro rfl (And.intro (And.intro rfl rfl) (And.intro trivial (And.intro (And.intro rfl rfl) (And.intro (And.intro rfl rfl) (And.intro (And.intro rfl rfl) (And.intro rfl (And.intro rfl (And.intro rfl (And.intro rfl (And.intro (And.intro rfl rfl) (And.intro (And.intro rfl rfl) (And.intro rfl trivial))))))))))))))
    obtain ⟨j, s, pa, hj, hs, hpl, he2⟩ := q
    refine And.intro (fun hjl => ?_) (fun hjg => ?_)
    rotate_left
    · have hjg : j = t.at'.length := by
        have : ¬ ((j : Nat) : Int) < ((t.at'.length : Nat) : Int) := of_decide_eq_false hjg
        omega
      rw [hjg, List.drop_length] at he2
      have he2 : tailX (lLoop b g (ts.length : Int) (ts.drop (i + 1)) (acc ++ [⟨t.ty, t.flag, pa⟩])) fs = X := he2
      refine ⟨[⟨t.ty, t.flag, pa⟩], ⟨rfl, rfl, by simp⟩, by show (acc.length + 1) * 56 ≤ _; omega, ?_⟩
      exact ⟨[0, 1, 2, 3, 4, 5, 6, 7, 8, 15], ⟨i + 1, acc ++ [⟨t.ty, t.flag, pa⟩], hlt, by rw [List.length_append]; show acc.length + 1 = _; omega, he2⟩, And.intro (And.intro rfl (And.intro rfl (And.intro rfl (And.intro rfl (And.intro rfl (And.intro rfl (And.intro rfl (And.intro rfl (And.intro (svI (i64_succ i (by omega))) trivial))))))))) (And.intro (And.intro rfl rfl) (And.intro rfl (And.intro (And.intro rfl rfl) (And.intro trivial (And.intro (And.intro rfl rfl) (And.intro (And.intro rfl rfl) (And.intro (And.intro rfl rfl) (And.intro rfl (And.intro rfl (And.intro (owLke rfl) trivial)))))))))), by show ts.length - (i + 1) < ts.length - i; omega⟩
    have hjl : j < t.at'.length := by
      have : ((j : Nat) : Int) < ((t.at'.length : Nat) : Int) := of_decide_eq_true hjl
      omega
    refine And.intro (show (0 : Int) ≤ (j : Int) ∧ (j : Int) < (t.at'.length : Int) from ⟨by omega, by omega⟩) ?_
    have hajm := a2 (nth t.at' j) (by rw [nthZ hjl]; exact List.getElem_mem hjl)
    rw [nthD hjl, sLoop] at he2
    obtain ⟨A, hA⟩ : ∃ A, A = nth t.at' j := ⟨_, rfl⟩
    rw [← hA] at he2 hajm
    refine Or.inr (Or.inr (Or.inr ⟨[0, 1, 2, 3], [4, 5], [6, 7, 8], [(11, some [3])], by kernel_rfl, ?_⟩))
    refine ⟨_, ⟨rfl, rfl⟩, fun xs => ⟨rfl, rfl⟩, ?_⟩
    refine ⟨_, ⟨rfl, rfl⟩, fun xs => ⟨rfl, rfl⟩, ?_⟩
    refine ⟨_, ⟨rfl, rfl⟩, fun xs => ⟨rfl, rfl⟩, ?_⟩
    refine ⟨_, ⟨rfl, rfl⟩, fun xs => ⟨rfl, rfl⟩, ?_⟩
    cases hp : singleX b g A s with
    | none =>
      rw [show subX b g (ts.length : Int) t.ty A s = none from by unfold subX; rw [if_pos hk, hp]] at he2
      refine lcall_subP [0, 1, 2, 11] (single_s b g (ts.length : Int) A s hB hb hajm hs none hp) (by rw [hA]; rfl) rfl rfl rfl rfl rfl rfl (And.intro (And.intro rfl rfl) (And.intro rfl (And.intro (And.intro rfl rfl) (And.intro (And.intro rfl rfl) trivial)))) (fun h => absurd rfl h) (fun _ => ?_)
      exact And.intro rfl (dcall_sub [4, 5, 6, 9, 8] (rec_c 0) rfl rfl rfl rfl rfl (And.intro (And.intro rfl rfl) (And.intro (And.intro rfl rfl) (And.intro (And.intro rfl rfl) (And.intro trivial (And.intro trivial trivial))))) (fun ρ1 S1 w1 hi => failX he2.symm hm0 hi rfl (And.intro trivial (And.intro rfl (And.intro trivial trivial))) rfl))
    | some r =>
      obtain ⟨ks, s'⟩ := r
      rw [show subX b g (ts.length : Int) t.ty A s = some (.one ks, s') from by unfold subX; rw [if_pos hk, hp]] at he2
      have hs' : 0 ≤ s' ∧ s' ≤ 65536 := single_rng hs hp
      refine lcall_subP [0, 1, 2, 11] (single_s b g (ts.length : Int) A s hB hb hajm hs _ hp) (by rw [hA]; rfl) rfl rfl rfl rfl rfl rfl (And.intro (And.intro rfl rfl) (And.intro rfl (And.intro (And.intro rfl rfl) (And.intro (And.intro rfl rfl) trivial)))) (fun _ => ?_) (fun h => by cases h)
      refine ⟨rfl, fun xs => rfl, ?_⟩
      refine ⟨rfl, fun xs => rfl, ?_⟩
      refine ⟨[.one ks], ⟨rfl, rfl, by simp [suE]⟩, by show (pa.length + 1) * 168 ≤ _; omega, ?_⟩
      exact ⟨[0, 1, 2, 3, 4, 5, 6, 7, 8, 9, 10, 11, 12, 16], ⟨j + 1, s', pa ++ [.one ks], hjl, hs', by rw [List.length_append]; show pa.length + 1 = _; omega, he2⟩, And.intro (And.intro rfl (And.intro rfl (And.intro rfl (And.intro rfl (And.intro rfl (And.intro rfl (And.intro rfl (And.intro rfl (And.intro rfl (And.intro rfl (And.intro rfl (And.intro rfl (And.intro rfl (And.intro (svI (i64_succ j (by omega))) trivial)))))))))))))) (And.intro (And.intro rfl rfl) (And.intro rfl (And.intro (And.intro rfl rfl) (And.intro trivial (And.intro (And.intro rfl rfl) (And.intro (And.intro rfl rfl) (And.intro (And.intro rfl rfl) (And.intro rfl (And.intro rfl (And.intro rfl (And.intro rfl (And.intro (And.intro rfl rfl) (And.intro (And.intro rfl rfl) (And.intro (owSue rfl) trivial)))))))))))))), by show t.at'.length - (j + 1) < t.at'.length - j; omega⟩
  by_cases hk : t.ty = 2
  · rw [lLoop, if_pos (show known t.ty from .inr (.inl hk))] at he
    refine Or.inr (lcall_sub [0, 1, 2, 12] (by_2 b g (ts.length : Int) 0 t.ty hk) (by rw [ht]; rfl) rfl rfl rfl rfl (And.intro (And.intro rfl rfl) (And.intro rfl (And.intro (And.intro rfl rfl) (And.intro (And.intro rfl rfl) trivial)))) ?_)
    refine ⟨St2 b g ts fs t i acc X, fun q => ⟨103, [⟨0, [], .bx 2 0⟩, ⟨1, [], .v (.int .i64 g)⟩, ⟨4, [], .bx 4 0⟩, ⟨5, [], .bx 5 0⟩, ⟨6, [], .bx 6 0⟩, ⟨7, [], .sl 7⟩, ⟨11, [], .mv 42 [.bx 11 0] []⟩, ⟨12, [], .bx 12 0⟩, ⟨59, [], .sl 7⟩, ⟨60, [], .v (.int .i64 (ts.length : Nat))⟩, ⟨61, [], .v (.int .i64 (i : Nat))⟩, ⟨81, [], .sl 10⟩, ⟨82, [], .v (.int .i64 (t.at'.length : Nat))⟩, ⟨83, [], .v (.int .i64 (q.j : Nat))⟩], rdC b false ++ [.dead, .bx 24 [.sl 9], .bx 25 [.sl 8], .bx 26 [.v (.int .i64 0)], owT ts, owF fs, owLk acc, .rd Int inferInstance 1 zE t.at', .bx 77 [.bx 2 0, .v (.int .i64 g), .v (.int .i64 (ts.length : Int)), .v (.int .i64 q.s)], .bx 35 [.v (.int .u16 t.ty), .v (.int .u16 t.flag), .sl 13, nilS], owSu q.acc], [], dropL nats 14⟩, fun q => t.at'.length - q.j, ⟨[0, 1, 2, 3, 4, 5, 6, 7, 8, 9, 10, 12, 13, 1000], ⟨0, 0, [], by omega, ⟨by omega, by omega⟩, rfl, he⟩, ?_⟩, fun q => ?_⟩
    · subst ht; exact And.intro (And.intro rfl (And.intro rfl (And.intro rfl (And.intro rfl (And.intro rfl (And.intro rfl (And.intro rfl (And.intro rfl (And.intro rfl (And.intro rfl (And.intro rfl (And.intro rfl (And.intro rfl (And.intro rfl trivial)))))))))))))) (And.intro (And.intro rfl rfl) (And.intro rfl (And.intro (And.intro rfl rfl) (And.intro trivial (And.intro (And.intro rfl rfl) (And.intro (And.intro rfl rfl) (And.intro (And.intro rfl rfl) (And.intro rfl (And.intro rfl (And.intro rfl (And.intro rfl (And.intro (And.intro rfl rfl) (And.intro (And.intro rfl rfl) (And.intro rfl trivial))))))))))))))
    obtain ⟨j, s, pa, hj, hs, hpl, he2⟩ := q
    refine And.intro (fun hjl => ?_) (fun hjg => ?_)
    rotate_left
    · have hjg : j = t.at'.length := by
        have : ¬ ((j : Nat) : Int) < ((t.at'.length : Nat) : Int) := of_decide_eq_false hjg
        omega
      rw [hjg, List.drop_length] at he2
      have he2 : tailX (lLoop b g (ts.length : Int) (ts.drop (i + 1)) (acc ++ [⟨t.ty, t.flag, pa⟩])) fs = X := he2
      refine ⟨[⟨t.ty, t.flag, pa⟩], ⟨rfl, rfl, by simp⟩, by show (acc.length + 1) * 56 ≤ _; omega, ?_⟩
      exact ⟨[0, 1, 2, 3, 4, 5, 6, 7, 8, 15], ⟨i + 1, acc ++ [⟨t.ty, t.flag, pa⟩], hlt, by rw [List.length_append]; show acc.length + 1 = _; omega, he2⟩, And.intro (And.intro rfl (And.intro rfl (And.intro rfl (And.intro rfl (And.intro rfl (And.intro rfl (And.intro rfl (And.intro rfl (And.intro (svI (i64_succ i (by omega))) trivial))))))))) (And.intro (And.intro rfl rfl) (And.intro rfl (And.intro (And.intro rfl rfl) (And.intro trivial (And.intro (And.intro rfl rfl) (And.intro (And.intro rfl rfl) (And.intro (And.intro rfl rfl) (And.intro rfl (And.intro rfl (And.intro (owLke rfl) trivial)))))))))), by show ts.length - (i + 1) < ts.length - i; omega⟩
    have hjl : j < t.at'.length := by
      have : ((j : Nat) : Int) < ((t.at'.length : Nat) : Int) := of_decide_eq_true hjl
      omega
    refine And.intro (show (0 : Int) ≤ (j : Int) ∧ (j : Int) < (t.at'.length : Int) from ⟨by omega, by omega⟩) ?_
    have hajm := a2 (nth t.at' j) (by rw [nthZ hjl]; exact List.getElem_mem hjl)
    rw [nthD hjl, sLoop] at he2
    obtain ⟨A, hA⟩ : ∃ A, A = nth t.at' j := ⟨_, rfl⟩
    rw [← hA] at he2 hajm
    refine Or.inr (Or.inr (Or.inr ⟨[0, 1, 2, 3], [4, 5], [6, 7, 8], [(11, some [3])], by kernel_rfl, ?_⟩))
    refine ⟨_, ⟨rfl, rfl⟩, fun xs => ⟨rfl, rfl⟩, ?_⟩
    refine ⟨_, ⟨rfl, rfl⟩, fun xs => ⟨rfl, rfl⟩, ?_⟩
    refine ⟨_, ⟨rfl, rfl⟩, fun xs => ⟨rfl, rfl⟩, ?_⟩
    refine ⟨_, ⟨rfl, rfl⟩, fun xs => ⟨rfl, rfl⟩, ?_⟩
    cases hp : muX b g A s with
    | none =>
      rw [show subX b g (ts.length : Int) t.ty A s = none from by unfold subX; rw [if_neg (by omega), if_pos hk, hp]] at he2
      refine lcall_subP [0, 1, 2, 11] (mu_s b g (ts.length : Int) A s hB hb hajm hs none hp) (by rw [hA]; rfl) rfl rfl rfl rfl rfl rfl (And.intro (And.intro rfl rfl) (And.intro rfl (And.intro (And.intro rfl rfl) (And.intro (And.intro rfl rfl) trivial)))) (fun h => absurd rfl h) (fun _ => ?_)
      exact And.intro rfl (dcall_sub [4, 5, 6, 9, 8] (rec_c 0) rfl rfl rfl rfl rfl (And.intro (And.intro rfl rfl) (And.intro (And.intro rfl rfl) (And.intro (And.intro rfl rfl) (And.intro trivial (And.intro trivial trivial))))) (fun ρ1 S1 w1 hi => failX he2.symm hm0 hi rfl (And.intro trivial (And.intro rfl (And.intro trivial trivial))) rfl))
    | some r =>
      obtain ⟨ks, s'⟩ := r
      rw [show subX b g (ts.length : Int) t.ty A s = some (.many ks, s') from by unfold subX; rw [if_neg (by omega), if_pos hk, hp]] at he2
      have hs' : 0 ≤ s' ∧ s' ≤ 65536 := mu_rng hB hajm.1 hs hp
      refine lcall_subP [0, 1, 2, 11] (mu_s b g (ts.length : Int) A s hB hb hajm hs _ hp) (by rw [hA]; rfl) rfl rfl rfl rfl rfl rfl (And.intro (And.intro rfl rfl) (And.intro rfl (And.intro (And.intro rfl rfl) (And.intro (And.intro rfl rfl) trivial)))) (fun _ => ?_) (fun h => by cases h)
      refine ⟨rfl, fun xs => rfl, ?_⟩
      refine ⟨rfl, fun xs => rfl, ?_⟩
      refine ⟨[.many ks], ⟨rfl, rfl, by simp [suE]⟩, by show (pa.length + 1) * 168 ≤ _; omega, ?_⟩
      exact ⟨[0, 1, 2, 3, 4, 5, 6, 7, 8, 9, 10, 11, 12, 16], ⟨j + 1, s', pa ++ [.many ks], hjl, hs', by rw [List.length_append]; show pa.length + 1 = _; omega, he2⟩, And.intro (And.intro rfl (And.intro rfl (And.intro rfl (And.intro rfl (And.intro rfl (And.intro rfl (And.intro rfl (And.intro rfl (And.intro rfl (And.intro rfl (And.intro rfl (And.intro rfl (And.intro rfl (And.intro (svI (i64_succ j (by omega))) trivial)))))))))))))) (And.intro (And.intro rfl rfl) (And.intro rfl (And.intro (And.intro rfl rfl) (And.intro trivial (And.intro (And.intro rfl rfl) (And.intro (And.intro rfl rfl) (And.intro (And.intro rfl rfl) (And.intro rfl (And.intro rfl (And.intro rfl (And.intro rfl (And.intro (And.intro rfl rfl) (And.intro (And.intro rfl rfl) (And.intro (owSue rfl) trivial)))))))))))))), by show t.at'.length - (j + 1) < t.at'.length - j; omega⟩
  by_cases hk : t.ty = 3
  · rw [lLoop, if_pos (show known t.ty from .inr (.inr (.inl hk)))] at he
    refine Or.inr (lcall_sub [0, 1, 2, 12] (by_3 b g (ts.length : Int) 0 t.ty hk) (by rw [ht]; rfl) rfl rfl rfl rfl (And.intro (And.intro rfl rfl) (And.intro rfl (And.intro (And.intro rfl rfl) (And.intro (And.intro rfl rfl) trivial)))) ?_)
    refine ⟨St2 b g ts fs t i acc X, fun q => ⟨103, [⟨0, [], .bx 2 0⟩, ⟨1, [], .v (.int .i64 g)⟩, ⟨4, [], .bx 4 0⟩, ⟨5, [], .bx 5 0⟩, ⟨6, [], .bx 6 0⟩, ⟨7, [], .sl 7⟩, ⟨11, [], .mv 43 [.bx 11 0] []⟩, ⟨12, [], .bx 12 0⟩, ⟨59, [], .sl 7⟩, ⟨60, [], .v (.int .i64 (ts.length : Nat))⟩, ⟨61, [], .v (.int .i64 (i : Nat))⟩, ⟨81, [], .sl 10⟩, ⟨82, [], .v (.int .i64 (t.at'.length : Nat))⟩, ⟨83, [], .v (.int .i64 (q.j : Nat))⟩], rdC b false ++ [.dead, .bx 24 [.sl 9], .bx 25 [.sl 8], .bx 26 [.v (.int .i64 0)], owT ts, owF fs, owLk acc, .rd Int inferInstance 1 zE t.at', .bx 77 [.bx 2 0, .v (.int .i64 g), .v (.int .i64 (ts.length : Int)), .v (.int .i64 q.s)], .bx 35 [.v (.int .u16 t.ty), .v (.int .u16 t.flag), .sl 13, nilS], owSu q.acc], [], dropL nats 14⟩, fun q => t.at'.length - q.j, ⟨[0, 1, 2, 3, 4, 5, 6, 7, 8, 9, 10, 12, 13, 1000], ⟨0, 0, [], by omega, ⟨by omega, by omega⟩, rfl, he⟩, ?_⟩, fun q => ?_⟩
    · subst ht; exact And.intro (And.intro rfl (And.intro rfl (And.intro rfl (And.intro rfl (And.intro rfl (And.intro rfl (And.intro rfl (And.intro rfl (And.intro rfl (And.intro rfl (And.intro rfl (And.intro rfl (And.intro rfl (And.intro rfl trivial)))))))))))))) (And.intro (And.intro rfl rfl) (And.intro rfl (And.intro (And.intro rfl rfl) (And.intro trivial (And.intro (And.intro rfl rfl) (And.intro (And.intro rfl rfl) (And.intro (And.intro rfl rfl) (And.intro rfl (And.intro rfl (And.intro rfl (And.intro rfl (And.intro (And.intro rfl rfl) (And.intro (And.intro rfl rfl) (And.intro rfl trivial))))))))))))))
    obtain ⟨j, s, pa, hj, hs, hpl, he2⟩ := q
    refine And.intro (fun hjl => ?_) (fun hjg => ?_)
    rotate_left
    · have hjg : j = t.at'.length := by
        have : ¬ ((j : Nat) : Int) < ((t.at'.length : Nat) : Int) := of_decide_eq_false hjg
        omega
      rw [hjg, List.drop_length] at he2
      have he2 : tailX (lLoop b g (ts.length : Int) (ts.drop (i + 1)) (acc ++ [⟨t.ty, t.flag, pa⟩])) fs = X := he2
      refine ⟨[⟨t.ty, t.flag, pa⟩], ⟨rfl, rfl, by simp⟩, by show (acc.length + 1) * 56 ≤ _; omega, ?_⟩
      exact ⟨[0, 1, 2, 3, 4, 5, 6, 7, 8, 15], ⟨i + 1, acc ++ [⟨t.ty, t.flag, pa⟩], hlt, by rw [List.length_append]; show acc.length + 1 = _; omega, he2⟩, And.intro (And.intro rfl (And.intro rfl (And.intro rfl (And.intro rfl (And.intro rfl (And.intro rfl (And.intro rfl (And.intro rfl (And.intro (svI (i64_succ i (by omega))) trivial))))))))) (And.intro (And.intro rfl rfl) (And.intro rfl (And.intro (And.intro rfl rfl) (And.intro trivial (And.intro (And.intro rfl rfl) (And.intro (And.intro rfl rfl) (And.intro (And.intro rfl rfl) (And.intro rfl (And.intro rfl (And.intro (owLke rfl) trivial)))))))))), by show ts.length - (i + 1) < ts.length - i; omega⟩
    have hjl : j < t.at'.length := by
      have : ((j : Nat) : Int) < ((t.at'.length : Nat) : Int) := of_decide_eq_true hjl
      omega
    refine And.intro (show (0 : Int) ≤ (j : Int) ∧ (j : Int) < (t.at'.length : Int) from ⟨by omega, by omega⟩) ?_
    have hajm := a2 (nth t.at' j) (by rw [nthZ hjl]; exact List.getElem_mem hjl)
    rw [nthD hjl, sLoop] at he2
    obtain ⟨A, hA⟩ : ∃ A, A = nth t.at' j := ⟨_, rfl⟩
    rw [← hA] at he2 hajm
    refine Or.inr (Or.inr (Or.inr ⟨[0, 1, 2, 3], [4, 5], [6, 7, 8], [(11, some [3])], by kernel_rfl, ?_⟩))
    refine ⟨_, ⟨rfl, rfl⟩, fun xs => ⟨rfl, rfl⟩, ?_⟩
    refine ⟨_, ⟨rfl, rfl⟩, fun xs => ⟨rfl, rfl⟩, ?_⟩
    refine ⟨_, ⟨rfl, rfl⟩, fun xs => ⟨rfl, rfl⟩, ?_⟩
    refine ⟨_, ⟨rfl, rfl⟩, fun xs => ⟨rfl, rfl⟩, ?_⟩
    cases hp : alX b g A s with
    | none =>
      rw [show subX b g (ts.length : Int) t.ty A s = none from by unfold subX; rw [if_neg (by omega), if_neg (by omega), if_pos hk, hp]] at he2
      refine lcall_subP [0, 1, 2, 11] (al_s b g (ts.length : Int) A s hB hb hajm hs none hp) (by rw [hA]; rfl) rfl rfl rfl rfl rfl rfl (And.intro (And.intro rfl rfl) (And.intro rfl (And.intro (And.intro rfl rfl) (And.intro (And.intro rfl rfl) trivial)))) (fun h => absurd rfl h) (fun _ => ?_)
      exact And.intro rfl (dcall_sub [4, 5, 6, 9, 8] (rec_c 0) rfl rfl rfl rfl rfl (And.intro (And.intro rfl rfl) (And.intro (And.intro rfl rfl) (And.intro (And.intro rfl rfl) (And.intro trivial (And.intro trivial trivial))))) (fun ρ1 S1 w1 hi => failX he2.symm hm0 hi rfl (And.intro trivial (And.intro rfl (And.intro trivial trivial))) rfl))
    | some r =>
      obtain ⟨ks, s'⟩ := r
      rw [show subX b g (ts.length : Int) t.ty A s = some (.one ks, s') from by unfold subX; rw [if_neg (by omega), if_neg (by omega), if_pos hk, hp]] at he2
      have hs' : 0 ≤ s' ∧ s' ≤ 65536 := al_rng hB hajm.1 hs hp
      refine lcall_subP [0, 1, 2, 11] (al_s b g (ts.length : Int) A s hB hb hajm hs _ hp) (by rw [hA]; rfl) rfl rfl rfl rfl rfl rfl (And.intro (And.intro rfl rfl) (And.intro rfl (And.intro (And.intro rfl rfl) (And.intro (And.intro rfl rfl) trivial)))) (fun _ => ?_) (fun h => by cases h)
      refine ⟨rfl, fun xs => rfl, ?_⟩
      refine ⟨rfl, fun xs => rfl, ?_⟩
      refine ⟨[.one ks], ⟨rfl, rfl, by simp [suE]⟩, by show (pa.length + 1) * 168 ≤ _; omega, ?_⟩
      exact ⟨[0, 1, 2, 3, 4, 5, 6, 7, 8, 9, 10, 11, 12, 16], ⟨j + 1, s', pa ++ [.one ks], hjl, hs', by rw [List.length_append]; show pa.length + 1 = _; omega, he2⟩, And.intro (And.intro rfl (And.intro rfl (And.intro rfl (And.intro rfl (And.intro rfl (And.intro rfl (And.intro rfl (And.intro rfl (And.intro rfl (And.intro rfl (And.intro rfl (And.intro rfl (And.intro rfl (And.intro (svI (i64_succ j (by omega))) trivial)))))))))))))) (And.intro (And.intro rfl rfl) (And.intro rfl (And.intro (And.intro rfl rfl) (And.intro trivial (And.intro (And.intro rfl rfl) (And.intro (And.intro rfl rfl) (And.intro (And.intro rfl rfl) (And.intro rfl (And.intro rfl (And.intro rfl (And.intro rfl (And.intro (And.intro rfl rfl) (And.intro (And.intro rfl rfl) (And.intro (owSue rfl) trivial)))))))))))))), by show t.at'.length - (j + 1) < t.at'.length - j; omega⟩
  by_cases hk : t.ty = 4
  · rw [lLoop, if_pos (show known t.ty from .inr (.inr (.inr (.inl hk))))] at he
    refine Or.inr (lcall_sub [0, 1, 2, 12] (by_4 b g (ts.length : Int) 0 t.ty hk) (by rw [ht]; rfl) rfl rfl rfl rfl (And.intro (And.intro rfl rfl) (And.intro rfl (And.intro (And.intro rfl rfl) (And.intro (And.intro rfl rfl) trivial)))) ?_)
    refine ⟨St2 b g ts fs t i acc X, fun q => ⟨103, [⟨0, [], .bx 2 0⟩, ⟨1, [], .v (.int .i64 g)⟩, ⟨4, [], .bx 4 0⟩, ⟨5, [], .bx 5 0⟩, ⟨6, [], .bx 6 0⟩, ⟨7, [], .sl 7⟩, ⟨11, [], .mv 44 [.bx 11 0] []⟩, ⟨12, [], .bx 12 0⟩, ⟨59, [], .sl 7⟩, ⟨60, [], .v (.int .i64 (ts.length : Nat))⟩, ⟨61, [], .v (.int .i64 (i : Nat))⟩, ⟨81, [], .sl 10⟩, ⟨82, [], .v (.int .i64 (t.at'.length : Nat))⟩, ⟨83, [], .v (.int .i64 (q.j : Nat))⟩], rdC b false ++ [.dead, .bx 24 [.sl 9], .bx 25 [.sl 8], .bx 26 [.v (.int .i64 0)], owT ts, owF fs, owLk acc, .rd Int inferInstance 1 zE t.at', .bx 77 [.bx 2 0, .v (.int .i64 g), .v (.int .i64 (ts.length : Int)), .v (.int .i64 q.s)], .bx 35 [.v (.int .u16 t.ty), .v (.int .u16 t.flag), .sl 13, nilS], owSu q.acc], [], dropL nats 14⟩, fun q => t.at'.length - q.j, ⟨[0, 1, 2, 3, 4, 5, 6, 7, 8, 9, 10, 12, 13, 1000], ⟨0, 0, [], by omega, ⟨by omega, by omega⟩, rfl, he⟩, ?_⟩, fun q => ?_⟩
    · subst ht; exact And.intro (And.intro rfl (And.intro rfl (And.intro rfl (And.intro rfl (And.intro rfl (And.intro rfl (And.intro rfl (And.intro rfl (And.intro rfl (And.intro rfl (And.intro rfl (And.intro rfl (And.intro rfl (And.intro rfl trivial)))))))))))))) (And.intro (And.intro rfl rfl) (And.intro rfl (And.intro (And.intro rfl rfl) (And.intro trivial (And.intro (And.intro rfl rfl) (And.intro (And.intro rfl rfl) (And.intro (And.intro rfl rfl) (And.intro rfl (And.intro rfl (And.intro rfl (And.intro rfl (And.intro (And.intro rfl rfl) (And.intro (And.intro rfl rfl) (And.intro rfl trivial))))))))))))))
    obtain ⟨j, s, pa, hj, hs, hpl, he2⟩ := q
    refine And.intro (fun hjl => ?_) (fun hjg => ?_)
    rotate_left
    · have hjg : j = t.at'.length := by
        have : ¬ ((j : Nat) : Int) < ((t.at'.length : Nat) : Int) := of_decide_eq_false hjg
        omega
      rw [hjg, List.drop_length] at he2
      have he2 : tailX (lLoop b g (ts.length : Int) (ts.drop (i + 1)) (acc ++ [⟨t.ty, t.flag, pa⟩])) fs = X := he2
      refine ⟨[⟨t.ty, t.flag, pa⟩], ⟨rfl, rfl, by simp⟩, by show (acc.length + 1) * 56 ≤ _; omega, ?_⟩
      exact ⟨[0, 1, 2, 3, 4, 5, 6, 7, 8, 15], ⟨i + 1, acc ++ [⟨t.ty, t.flag, pa⟩], hlt, by rw [List.length_append]; show acc.length + 1 = _; omega, he2⟩, And.intro (And.intro rfl (And.intro rfl (And.intro rfl (And.intro rfl (And.intro rfl (And.intro rfl (And.intro rfl (And.intro rfl (And.intro (svI (i64_succ i (by omega))) trivial))))))))) (And.intro (And.intro rfl rfl) (And.intro rfl (And.intro (And.intro rfl rfl) (And.intro trivial (And.intro (And.intro rfl rfl) (And.intro (And.intro rfl rfl) (And.intro (And.intro rfl rfl) (And.intro rfl (And.intro rfl (And.intro (owLke rfl) trivial)))))))))), by show ts.length - (i + 1) < ts.length - i; omega⟩
    have hjl : j < t.at'.length := by
      have : ((j : Nat) : Int) < ((t.at'.length : Nat) : Int) := of_decide_eq_true hjl
      omega
    refine And.intro (show (0 : Int) ≤ (j : Int) ∧ (j : Int) < (t.at'.length : Int) from ⟨by omega, by omega⟩) ?_
    have hajm := a2 (nth t.at' j) (by rw [nthZ hjl]; exact List.getElem_mem hjl)
    rw [nthD hjl, sLoop] at he2
    obtain ⟨A, hA⟩ : ∃ A, A = nth t.at' j := ⟨_, rfl⟩
    rw [← hA] at he2 hajm
    refine Or.inr (Or.inr (Or.inr ⟨[0, 1, 2, 3], [4, 5], [6, 7, 8], [(11, some [3])], by kernel_rfl, ?_⟩))
    refine ⟨_, ⟨rfl, rfl⟩, fun xs => ⟨rfl, rfl⟩, ?_⟩
    refine ⟨_, ⟨rfl, rfl⟩, fun xs => ⟨rfl, rfl⟩, ?_⟩
    refine ⟨_, ⟨rfl, rfl⟩, fun xs => ⟨rfl, rfl⟩, ?_⟩
    refine ⟨_, ⟨rfl, rfl⟩, fun xs => ⟨rfl, rfl⟩, ?_⟩
    cases hp : ligX b g A s with
    | none =>
      rw [show subX b g (ts.length : Int) t.ty A s = none from by unfold subX; rw [if_neg (by omega), if_neg (by omega), if_neg (by omega), if_pos hk, hp]] at he2
      refine lcall_subP [0, 1, 2, 11] (lig_s b g (ts.length : Int) A s hB hb hajm hs none hp) (by rw [hA]; rfl) rfl rfl rfl rfl rfl rfl (And.intro (And.intro rfl rfl) (And.intro rfl (And.intro (And.intro rfl rfl) (And.intro (And.intro rfl rfl) trivial)))) (fun h => absurd rfl h) (fun _ => ?_)
      exact And.intro rfl (dcall_sub [4, 5, 6, 9, 8] (rec_c 0) rfl rfl rfl rfl rfl (And.intro (And.intro rfl rfl) (And.intro (And.intro rfl rfl) (And.intro (And.intro rfl rfl) (And.intro trivial (And.intro trivial trivial))))) (fun ρ1 S1 w1 hi => failX he2.symm hm0 hi rfl (And.intro trivial (And.intro rfl (And.intro trivial trivial))) rfl))
    | some r =>
      obtain ⟨ks, s'⟩ := r
      rw [show subX b g (ts.length : Int) t.ty A s = some (.lig ks, s') from by unfold subX; rw [if_neg (by omega), if_neg (by omega), if_neg (by omega), if_pos hk, hp]] at he2
      have hs' : 0 ≤ s' ∧ s' ≤ 65536 := lig_rng hB hajm.1 hs hp
      refine lcall_subP [0, 1, 2, 11] (lig_s b g (ts.length : Int) A s hB hb hajm hs _ hp) (by rw [hA]; rfl) rfl rfl rfl rfl rfl rfl (And.intro (And.intro rfl rfl) (And.intro rfl (And.intro (And.intro rfl rfl) (And.intro (And.intro rfl rfl) trivial)))) (fun _ => ?_) (fun h => by cases h)
      refine ⟨rfl, fun xs => rfl, ?_⟩
      refine ⟨rfl, fun xs => rfl, ?_⟩
      refine ⟨[.lig ks], ⟨rfl, rfl, by simp [suE]⟩, by show (pa.length + 1) * 168 ≤ _; omega, ?_⟩
      exact ⟨[0, 1, 2, 3, 4, 5, 6, 7, 8, 9, 10, 11, 12, 16], ⟨j + 1, s', pa ++ [.lig ks], hjl, hs', by rw [List.length_append]; show pa.length + 1 = _; omega, he2⟩, And.intro (And.intro rfl (And.intro rfl (And.intro rfl (And.intro rfl (And.intro rfl (And.intro rfl (And.intro rfl (And.intro rfl (And.intro rfl (And.intro rfl (And.intro rfl (And.intro rfl (And.intro rfl (And.intro (svI (i64_succ j (by omega))) trivial)))))))))))))) (And.intro (And.intro rfl rfl) (And.intro rfl (And.intro (And.intro rfl rfl) (And.intro trivial (And.intro (And.intro rfl rfl) (And.intro (And.intro rfl rfl) (And.intro (And.intro rfl rfl) (And.intro rfl (And.intro rfl (And.intro rfl (And.intro rfl (And.intro (And.intro rfl rfl) (And.intro (And.intro rfl rfl) (And.intro (owSue rfl) trivial)))))))))))))), by show t.at'.length - (j + 1) < t.at'.length - j; omega⟩
  by_cases hk : t.ty = 6
  · rw [lLoop, if_pos (show known t.ty from .inr (.inr (.inr (.inr hk))))] at he
    refine Or.inr (lcall_sub [0, 1, 2, 12] (by_6 b g (ts.length : Int) 0 t.ty hk) (by rw [ht]; rfl) rfl rfl rfl rfl (And.intro (And.intro rfl rfl) (And.intro rfl (And.intro (And.intro rfl rfl) (And.intro (And.intro rfl rfl) trivial)))) ?_)
    refine ⟨St2 b g ts fs t i acc X, fun q => ⟨103, [⟨0, [], .bx 2 0⟩, ⟨1, [], .v (.int .i64 g)⟩, ⟨4, [], .bx 4 0⟩, ⟨5, [], .bx 5 0⟩, ⟨6, [], .bx 6 0⟩, ⟨7, [], .sl 7⟩, ⟨11, [], .mv 45 [.bx 11 0] []⟩, ⟨12, [], .bx 12 0⟩, ⟨59, [], .sl 7⟩, ⟨60, [], .v (.int .i64 (ts.length : Nat))⟩, ⟨61, [], .v (.int .i64 (i : Nat))⟩, ⟨81, [], .sl 10⟩, ⟨82, [], .v (.int .i64 (t.at'.length : Nat))⟩, ⟨83, [], .v (.int .i64 (q.j : Nat))⟩], rdC b false ++ [.dead, .bx 24 [.sl 9], .bx 25 [.sl 8], .bx 26 [.v (.int .i64 0)], owT ts, owF fs, owLk acc, .rd Int inferInstance 1 zE t.at', .bx 77 [.bx 2 0, .v (.int .i64 g), .v (.int .i64 (ts.length : Int)), .v (.int .i64 q.s)], .bx 35 [.v (.int .u16 t.ty), .v (.int .u16 t.flag), .sl 13, nilS], owSu q.acc], [], dropL nats 14⟩, fun q => t.at'.length - q.j, ⟨[0, 1, 2, 3, 4, 5, 6, 7, 8, 9, 10, 12, 13, 1000], ⟨0, 0, [], by omega, ⟨by omega, by omega⟩, rfl, he⟩, ?_⟩, fun q => ?_⟩
    · subst ht; exact And.intro (And.intro rfl (And.intro rfl (And.intro rfl (And.intro rfl (And.intro rfl (And.intro rfl (And.intro rfl (And.intro rfl (And.intro rfl (And.intro rfl (And.intro rfl (And.intro rfl (And.intro rfl (And.intro rfl trivial)))))))))))))) (And.intro (And.intro rfl rfl) (And.intro rfl (And.intro (And.intro rfl rfl) (And.intro trivial (And.intro (And.intro rfl rfl) (And.intro (And.intro rfl rfl) (And.intro (And.intro rfl rfl) (And.intro rfl (And.intro rfl (And.intro rfl (And.intro rfl (And.intro (And.intro rfl rfl) (And.intro (And.intro rfl rfl) (And.intro rfl trivial))))))))))))))
    obtain ⟨j, s, pa, hj, hs, hpl, he2⟩ := q
    refine And.intro (fun hjl => ?_) (fun hjg => ?_)
    rotate_left
    · have hjg : j = t.at'.length := by
        have : ¬ ((j : Nat) : Int) < ((t.at'.length : Nat) : Int) := of_decide_eq_false hjg
        omega
      rw [hjg, List.drop_length] at he2
      have he2 : tailX (lLoop b g (ts.length : Int) (ts.drop (i + 1)) (acc ++ [⟨t.ty, t.flag, pa⟩])) fs = X := he2
      refine ⟨[⟨t.ty, t.flag, pa⟩], ⟨rfl, rfl, by simp⟩, by show (acc.length + 1) * 56 ≤ _; omega, ?_⟩
      exact ⟨[0, 1, 2, 3, 4, 5, 6, 7, 8, 15], ⟨i + 1, acc ++ [⟨t.ty, t.flag, pa⟩], hlt, by rw [List.length_append]; show acc.length + 1 = _; omega, he2⟩, And.intro (And.intro rfl (And.intro rfl (And.intro rfl (And.intro rfl (And.intro rfl (And.intro rfl (And.intro rfl (And.intro rfl (And.intro (svI (i64_succ i (by omega))) trivial))))))))) (And.intro (And.intro rfl rfl) (And.intro rfl (And.intro (And.intro rfl rfl) (And.intro trivial (And.intro (And.intro rfl rfl) (And.intro (And.intro rfl rfl) (And.intro (And.intro rfl rfl) (And.intro rfl (And.intro rfl (And.intro (owLke rfl) trivial)))))))))), by show ts.length - (i + 1) < ts.length - i; omega⟩
    have hjl : j < t.at'.length := by
      have : ((j : Nat) : Int) < ((t.at'.length : Nat) : Int) := of_decide_eq_true hjl
      omega
    refine And.intro (show (0 : Int) ≤ (j : Int) ∧ (j : Int) < (t.at'.length : Int) from ⟨by omega, by omega⟩) ?_
    have hajm := a2 (nth t.at' j) (by rw [nthZ hjl]; exact List.getElem_mem hjl)
    rw [nthD hjl, sLoop] at he2
    obtain ⟨A, hA⟩ : ∃ A, A = nth t.at' j := ⟨_, rfl⟩
    rw [← hA] at he2 hajm
    refine Or.inr (Or.inr (Or.inr ⟨[0, 1, 2, 3], [4, 5], [6, 7, 8], [(11, some [3])], by kernel_rfl, ?_⟩))
    refine ⟨_, ⟨rfl, rfl⟩, fun xs => ⟨rfl, rfl⟩, ?_⟩
    refine ⟨_, ⟨rfl, rfl⟩, fun xs => ⟨rfl, rfl⟩, ?_⟩
    refine ⟨_, ⟨rfl, rfl⟩, fun xs => ⟨rfl, rfl⟩, ?_⟩
    refine ⟨_, ⟨rfl, rfl⟩, fun xs => ⟨rfl, rfl⟩, ?_⟩
    cases hp : chainX b g (ts.length : Int) A s with
    | none =>
      rw [show subX b g (ts.length : Int) t.ty A s = none from by unfold subX; rw [if_neg (by omega), if_neg (by omega), if_neg (by omega), if_neg (by omega), hp]] at he2
      refine lcall_subP [0, 1, 2, 11] (chain_s b g (ts.length : Int) A s hB hb hajm hs none hp) (by rw [hA]; rfl) rfl rfl rfl rfl rfl rfl (And.intro (And.intro rfl rfl) (And.intro rfl (And.intro (And.intro rfl rfl) (And.intro (And.intro rfl rfl) trivial)))) (fun h => absurd rfl h) (fun _ => ?_)
      exact And.intro rfl (dcall_sub [4, 5, 6, 9, 8] (rec_c 0) rfl rfl rfl rfl rfl (And.intro (And.intro rfl rfl) (And.intro (And.intro rfl rfl) (And.intro (And.intro rfl rfl) (And.intro trivial (And.intro trivial trivial))))) (fun ρ1 S1 w1 hi => failX he2.symm hm0 hi rfl (And.intro trivial (And.intro rfl (And.intro trivial trivial))) rfl))
    | some r =>
      obtain ⟨ks, s'⟩ := r
      rw [show subX b g (ts.length : Int) t.ty A s = some (.ch ks, s') from by unfold subX; rw [if_neg (by omega), if_neg (by omega), if_neg (by omega), if_neg (by omega), hp]] at he2
      have hs' : 0 ≤ s' ∧ s' ≤ 65536 := chain_rng hB hs hp
      refine lcall_subP [0, 1, 2, 11] (chain_s b g (ts.length : Int) A s hB hb hajm hs _ hp) (by rw [hA]; rfl) rfl rfl rfl rfl rfl rfl (And.intro (And.intro rfl rfl) (And.intro rfl (And.intro (And.intro rfl rfl) (And.intro (And.intro rfl rfl) trivial)))) (fun _ => ?_) (fun h => by cases h)
      refine ⟨rfl, fun xs => rfl, ?_⟩
      refine ⟨rfl, fun xs => rfl, ?_⟩
      refine ⟨[.ch ks], ⟨rfl, rfl, by simp [suE]⟩, by show (pa.length + 1) * 168 ≤ _; omega, ?_⟩
      exact ⟨[0, 1, 2, 3, 4, 5, 6, 7, 8, 9, 10, 11, 12, 19], ⟨j + 1, s', pa ++ [.ch ks], hjl, hs', by rw [List.length_append]; show pa.length + 1 = _; omega, he2⟩, And.intro (And.intro rfl (And.intro rfl (And.intro rfl (And.intro rfl (And.intro rfl (And.intro rfl (And.intro rfl (And.intro rfl (And.intro rfl (And.intro rfl (And.intro rfl (And.intro rfl (And.intro rfl (And.intro (svI (i64_succ j (by omega))) trivial)))))))))))))) (And.intro (And.intro rfl rfl) (And.intro rfl (And.intro (And.intro rfl rfl) (And.intro trivial (And.intro (And.intro rfl rfl) (And.intro (And.intro rfl rfl) (And.intro (And.intro rfl rfl) (And.intro rfl (And.intro rfl (And.intro rfl (And.intro rfl (And.intro (And.intro rfl rfl) (And.intro (And.intro rfl rfl) (And.intro (owSue rfl) trivial)))))))))))))), by show t.at'.length - (j + 1) < t.at'.length - j; omega⟩
  have hkn : ¬ known t.ty := fun h => by
    unfold known at h
    omega
  rw [lLoop, if_neg hkn] at he
  refine Or.inr (lcall_subP [0, 1, 2, 12] (by_no b g (ts.length : Int) 0 t.ty hkn) (by rw [ht]; rfl) rfl rfl rfl rfl rfl rfl (And.intro (And.intro rfl rfl) (And.intro rfl (And.intro (And.intro rfl rfl) (And.intro (And.intro rfl rfl) trivial)))) (fun h => h.elim) (fun _ => ?_))
  exact And.intro rfl (dcall_sub [4, 5, 6, 9, 8] (rec_c 0) rfl rfl rfl rfl rfl (And.intro (And.intro rfl rfl) (And.intro (And.intro rfl rfl) (And.intro (And.intro rfl rfl) (And.intro trivial (And.intro trivial trivial))))) (fun ρ1 S1 w1 hi => failX he.symm hm0 hi rfl (And.intro trivial (And.intro rfl (And.intro trivial trivial))) rfl))
end Go.Proofs.Ytalploampmdemaa
