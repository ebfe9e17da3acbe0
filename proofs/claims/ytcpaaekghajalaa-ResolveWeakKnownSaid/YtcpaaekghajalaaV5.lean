/- resolve.Weak's third part, walked. -/
import Derived.Test.YtcpaaekghajalaaV4
namespace Go.Proofs.Ytcpaaekghajalaa
open Go Go.Eng Go.RowKit

def envR (k s s0 : Int) (x69 x67 x68 : Value) : List Ent := [⟨14, [], .v (.int .i64 k)⟩, ⟨13, [], .v (.int .u8 s)⟩, ⟨108, [], .v (.int .u8 s0)⟩, ⟨69, [], .v x69⟩, ⟨1, [], .v (.int .u8 s0)⟩, ⟨5, [], .bx 4 0⟩, ⟨8, [], .fn 36 [.bx 4 0]⟩, ⟨67, [], .v x67⟩, ⟨68, [], .v x68⟩]
def mkR {Fin : List Int} (l : List Int) (s0 b n : Int) (x69 x67 x68 : Value) (t : TS Fin) : St :=
  ⟨187, envR t.k t.s s0 x69 x67 x68, chW l (mg t.Y 0 l) (posL l) b n, [], dropL nats 5⟩
theorem setRun_mg' (Y l : List Int) (c : Int) (f m : Nat) (hY : Y.length = (noBN l).length) (h : f + m ≤ (noBN l).length) : setRun (mg Y 0 l) (posL l) c f (f + m - f) = mg (setY Y c f m) 0 l := by
  rw [show f + m - f = m from by omega]; exact setRun_mg Y l c f hY m h

set_option maxHeartbeats 2000000 in
theorem weak_rest {Fin : List Int} (l : List Int) (s0 b n : Int) (x69 x67 x68 : Value) (hF : Fin.length = (noBN l).length) (hl : l.length ≤ 1000000) (t : TS Fin) (K : Exit → St → Prop)
    (hret : ∀ E ids, K .ret ⟨187, ⟨4, [], .sl 1⟩ :: E, chW l (mg Fin 0 l) (posL l) b n, [], ids⟩)
    (hgo : ∀ st' (t' : TS Fin), Ent' 1 [0, 1, 2, 3, 4] st' (mkR l s0 b n x69 x67 x68 t') → t'.mu < t.mu → K (.goto 0) st') : exec cf 1 rest25 (mkR l s0 b n x69 x67 x68 t) K := by
  have hn := noBN_len l
  have hpl : (posL l).length = t.Y.length := by rw [posL_len, t.hl, hF]
  have hYl : t.Y.length = (noBN l).length := by rw [t.hl, hF]
  have hml : (mg t.Y 0 l).length ≤ 1000000 := by rw [mg_len]; exact hl
  have hk := t.hk
  have go1 : ∀ (st' : St) (t' : TS Fin), Ent' 1 [0, 1, 2, 3, 4] st' (mkR l s0 b n x69 x67 x68 t') → t.k < t.Y.length → t.k < t'.k → K (.goto 0) st' := fun st' t' h3 h1 h2 => hgo st' t' h3 (TS.mu_lt t t' h1 h2)
  have ch1 : ∀ {X X' : List Int}, X = X' → chsLe (chW l X (posL l) b n) [0, 1, 2, 3, 4] (chW l X' (posL l) b n) [0, 1, 2, 3, 4] (chW l X' (posL l) b n) := fun h => by
    subst h
    exact And.intro rfl (And.intro rfl (And.intro rfl (And.intro (And.intro rfl rfl) (And.intro (And.intro rfl rfl) trivial))))
  have ch4 : ∀ {X : List Int}, chsLe (chW l X (posL l) b n) [1, 2, 3, 4] (rw1 X (posL l) b n) [1, 2, 3, 4] (rw1 X (posL l) b n) := And.intro rfl (And.intro rfl (And.intro (And.intro rfl rfl) (And.intro (And.intro rfl rfl) trivial)))
  refine And.intro (fun he => ?_) (fun hne => ?_)
  · have he : t.k = t.Y.length := by have : (t.k : Int) = ((posL l).length : Nat) := by simpa using he
                                     omega
    have hY := t.done he
    have h0 := hret
    rw [← hY] at h0
    exact h0 _ _
  have hlt : t.k < t.Y.length := by have : ¬ (t.k : Int) = ((posL l).length : Nat) := by simpa using hne
                                    omega
  have hat := atF_in (l := l) hYl hlt
  have atc : ∀ (Y : List Int) (k : Int) (p : Value) (w : World), Y.length = t.Y.length → DRep (· < w.heap.size) w (.ptr (rowDV (mg Y 0 l) (posL l) b n)) p → Calls Try.prog 37 #[p, .int .i64 k] w fun e w' => e = .returned (.int .u8 (atF (mg Y 0 l) (posL l) k)) ∧ Below w.heap.size w w' :=
    fun Y k p w hY hp => at_c _ _ _ _ _ _ w (posL_in _ _) (by rw [mg_len]; exact hl) hp
  refine Or.inl ⟨_, fun ρ S w' hm => atc _ _ _ w' rfl (rowR hm 1 2 3 rfl rfl rfl rfl rfl rfl), ?_⟩
  refine And.intro (fun h6 => ?_) (fun h6 => ?_)
  · have h6 : nth t.Y t.k = 6 := by have : atF (mg t.Y 0 l) (posL l) t.k = 6 := by simpa using h6
                                    rw [← hat]; exact this
    refine ⟨{ j : Nat // t.k ≤ j ∧ j ≤ t.Y.length ∧ ∀ i, t.k ≤ i → i < j → nth t.Y i = 6 }, fun j => ⟨187, ⟨15, [], .v (.int .i64 j.1)⟩ :: envR t.k t.s s0 x69 x67 x68, chW l (mg t.Y 0 l) (posL l) b n, [], dropL nats 5⟩, fun j => t.Y.length - j.1,
      ⟨[0, 1, 2, 3, 4], ⟨t.k, Nat.le_refl _, hk, fun i h1 h2 => by omega⟩, ?_⟩, fun j => ?_⟩
    · exact And.intro (And.intro rfl (And.intro rfl (And.intro rfl (And.intro rfl (And.intro rfl (And.intro rfl (And.intro rfl (And.intro rfl (And.intro rfl (And.intro rfl trivial)))))))))) (ch1 rfl)
    obtain ⟨j, hj1, hj2, hj3⟩ := j
    refine Or.inl ⟨_, fun ρ S w' hm => atc _ _ _ w' rfl (rowR hm 1 2 3 rfl rfl rfl rfl rfl rfl), ?_⟩
    refine And.intro (fun hj6 => ?_) (fun hj6 => ?_)
    · have hj6 : atF (mg t.Y 0 l) (posL l) (j : Int) = 6 := by simpa using hj6
      obtain ⟨g1, g2⟩ := atF_6 hYl hj6
      exact ⟨[0, 1, 2, 3, 4], ⟨j + 1, by omega, g1, fun i h1 h2 => by
        rcases Nat.lt_or_ge i j with h | h
        · exact hj3 i h1 h
        · rw [show i = j from by omega]; exact g2⟩, And.intro (And.intro (sv_i64 (i64_succ j (by omega))) (And.intro rfl (And.intro rfl (And.intro rfl (And.intro rfl (And.intro rfl (And.intro rfl (And.intro rfl (And.intro rfl (And.intro rfl trivial)))))))))) (ch1 rfl), by show _ - (j + 1) < _ - j; omega⟩
    · have hj6 : ¬ atF (mg t.Y 0 l) (posL l) (j : Int) = 6 := by simpa using hj6
      have hend := atF_n6 hYl hj6
      obtain ⟨m, rfl⟩ : ∃ m, j = t.k + m := ⟨j - t.k, by omega⟩
      have hm : 0 < m := by
        rcases Nat.eq_zero_or_pos m with h | h
        · subst h; exact absurd h6 (hend hlt)
        · exact h
      have hset4 := setRun_mg' t.Y l 4 t.k m hYl (by omega)
      have hset14 := setRun_mg' t.Y l 14 t.k m hYl (by omega)
      refine Or.inr (lcall_sub [1, 2, 3] (terms_s (mg t.Y 0 l) (posL l) b n t.k (t.k + m) (by omega) (by omega) (posL_in _ _) hml (by omega)) rfl rfl rfl rfl rfl (And.intro rfl (And.intro rfl (And.intro (And.intro rfl rfl) trivial))) ?_)
      rcases t.term hF m hm hj2 hj3 hend with ⟨hT, hc⟩ | ⟨hT, hc⟩
      · rw [hT, hset4]
        have hv : atF (mg (setY t.Y 4 t.k m) 0 l) (posL l) (t.k : Int) = 4 := by
          rw [atF_in (by rw [setY_len]; exact hYl) (by rw [setY_len]; exact hlt), setY_nth _ _ _ _ _ hj2, if_pos (by omega)]
        refine Or.inl ⟨_, fun ρ S w' hm => atc _ _ _ w' (setY_len _ _ _ _) (rowR hm 1 2 3 rfl rfl rfl rfl rfl rfl), ?_⟩
        refine And.intro (fun h4 => ?_) (fun h4 => ?_)
        · exact hgo _ (t.run4 m hm hj2 hj3 hc) (And.intro (And.intro rfl (And.intro rfl (And.intro rfl (And.intro rfl (And.intro rfl (And.intro rfl (And.intro rfl (And.intro rfl (And.intro rfl trivial))))))))) (ch1 rfl)) (TS.mu_lt4 t _ hlt h6 rfl (by show nth (setY t.Y 4 t.k m) t.k ≠ 6; rw [setY_nth _ _ _ _ _ hj2, if_pos (by omega)]; omega))
        · have h4 : ¬ atF (mg (setY t.Y 4 t.k m) 0 l) (posL l) (t.k : Int) = 4 := by simpa using h4
          exact absurd hv h4
      · rw [hT, hset14]
        have hv : atF (mg (setY t.Y 14 t.k m) 0 l) (posL l) (t.k : Int) = 14 := by
          rw [atF_in (by rw [setY_len]; exact hYl) (by rw [setY_len]; exact hlt), setY_nth _ _ _ _ _ hj2, if_pos (by omega)]
        refine Or.inl ⟨_, fun ρ S w' hm => atc _ _ _ w' (setY_len _ _ _ _) (rowR hm 1 2 3 rfl rfl rfl rfl rfl rfl), ?_⟩
        refine And.intro (fun h4 => ?_) (fun h4 => ?_)
        · have h4 : atF (mg (setY t.Y 14 t.k m) 0 l) (posL l) (t.k : Int) = 4 := by simpa using h4
          rw [hv] at h4; omega
        · exact go1 _ (t.run14 m hm hj2 hj3 hc hend) (And.intro (And.intro rfl (And.intro rfl (And.intro rfl (And.intro rfl (And.intro rfl (And.intro rfl (And.intro rfl (And.intro rfl (And.intro rfl trivial))))))))) (ch1 rfl)) hlt (by show t.k < t.k + m; omega)
  have h6 : ¬ nth t.Y t.k = 6 := by have : ¬ atF (mg t.Y 0 l) (posL l) t.k = 6 := by simpa using h6
                                    rw [← hat]; exact this
  have ek : IntKind.i64.wrap ((t.k : Int) + 1) = ((t.k + 1 : Nat) : Int) := i64_succ t.k (by omega)
  have tk1 : ∀ {k : Nat}, k = t.k + 1 → SV.v (.int .i64 (IntKind.i64.wrap ((t.k : Int) + 1))) = SV.v (.int .i64 (k : Int)) := fun h => by subst h; exact sv_i64 ek
  have hset : ∀ c, (mg t.Y 0 l).set (nth (posL l) t.k) c = mg (t.Y.set t.k c) 0 l := fun c => mg_set _ _ _ _ (by omega) hYl
  have hpos : nth (posL l) t.k < (mg t.Y 0 l).length := posL_in _ _ _ (by omega)
  refine And.intro (fun h5 => ?_) (fun h5 => ?_)
  · have h5' : nth t.Y t.k = 5 := by rw [← hat]; simpa using h5
    refine And.intro (fun _ => ?_) (fun h => absurd (h5.symm.trans h) (by simp))
    refine Or.inr (lcall_sub [1, 2, 3, 4] (put_s (mg t.Y 0 l) (posL l) b n 14 t.k (by omega) hpos) rfl rfl rfl rfl rfl ch4 ?_)
    exact go1 _ (t.stepS hlt (.inl h5')) (And.intro (And.intro (tk1 rfl) (And.intro rfl (And.intro rfl (And.intro rfl (And.intro rfl (And.intro rfl (And.intro rfl (And.intro rfl (And.intro rfl trivial))))))))) (ch1 (hset 14))) hlt (by show t.k < t.k + 1; omega)
  have h5 : ¬ nth t.Y t.k = 5 := by rw [← hat]; simpa using h5
  refine And.intro (fun h8 => ?_) (fun h8 => ?_)
  · have h8' : nth t.Y t.k = 8 := by rw [← hat]; simpa using h8
    refine Or.inr (lcall_sub [1, 2, 3, 4] (put_s (mg t.Y 0 l) (posL l) b n 14 t.k (by omega) hpos) rfl rfl rfl rfl rfl ch4 ?_)
    exact go1 _ (t.stepS hlt (.inr h8')) (And.intro (And.intro (tk1 rfl) (And.intro rfl (And.intro rfl (And.intro rfl (And.intro rfl (And.intro rfl (And.intro rfl (And.intro rfl (And.intro rfl trivial))))))))) (ch1 (hset 14))) hlt (by show t.k < t.k + 1; omega)
  have h8 : ¬ nth t.Y t.k = 8 := by rw [← hat]; simpa using h8
  refine And.intro (fun h1 => ?_) (fun h1 => ?_)
  · have h1' : nth t.Y t.k = 1 := by rw [← hat]; simpa using h1
    refine And.intro (fun _ => ?_) (fun h => absurd (h1.symm.trans h) (by simp))
    refine Or.inl ⟨_, fun ρ S w' hm => atc _ _ _ w' rfl (rowR hm 1 2 3 rfl rfl rfl rfl rfl rfl), ?_⟩
    exact go1 _ (t.stepLR hlt (.inl h1')) (And.intro (And.intro (tk1 rfl) (And.intro (svu hat) (And.intro rfl (And.intro rfl (And.intro rfl (And.intro rfl (And.intro rfl (And.intro rfl (And.intro rfl trivial))))))))) (ch1 rfl)) hlt (by show t.k < t.k + 1; omega)
  have h1 : ¬ nth t.Y t.k = 1 := by rw [← hat]; simpa using h1
  refine And.intro (fun h2 => ?_) (fun h2 => ?_)
  · have h2' : nth t.Y t.k = 2 := by rw [← hat]; simpa using h2
    refine Or.inl ⟨_, fun ρ S w' hm => atc _ _ _ w' rfl (rowR hm 1 2 3 rfl rfl rfl rfl rfl rfl), ?_⟩
    exact go1 _ (t.stepLR hlt (.inr h2')) (And.intro (And.intro (tk1 rfl) (And.intro (svu hat) (And.intro rfl (And.intro rfl (And.intro rfl (And.intro rfl (And.intro rfl (And.intro rfl (And.intro rfl trivial))))))))) (ch1 rfl)) hlt (by show t.k < t.k + 1; omega)
  have h2 : ¬ nth t.Y t.k = 2 := by rw [← hat]; simpa using h2
  refine And.intro (fun h4 => ?_) (fun h4 => ?_)
  · have h4 : nth t.Y t.k = 4 := by rw [← hat]; simpa using h4
    have at1 := atc t.Y
    refine Or.inl ⟨_, fun _ ρ S w' hm => atc t.Y _ _ w' rfl (rowR hm 1 2 3 rfl rfl rfl rfl rfl rfl), ?_⟩
    refine And.intro (fun hc => ?_) (fun hc => ?_)
    · have hc : t.s = 1 ∧ ¬ atF (mg t.Y 0 l) (posL l) (IntKind.i64.wrap ((t.k : Int) + 1)) = 6 := by simpa using hc
      rw [ek] at hc
      have hn6 := atF_n6 hYl hc.2
      refine Or.inr (lcall_sub [1, 2, 3, 4] (put_s (mg t.Y 0 l) (posL l) b n 1 t.k (by omega) hpos) rfl rfl rfl rfl rfl ch4 ?_)
      exact go1 _ (t.stepE hlt h4 hc.1 hn6) (And.intro (And.intro (tk1 rfl) (And.intro rfl (And.intro rfl (And.intro rfl (And.intro rfl (And.intro rfl (And.intro rfl (And.intro rfl (And.intro rfl trivial))))))))) (ch1 (hset 1))) hlt (by show t.k < t.k + 1; omega)
    · have hc : ¬ (t.s = 1 ∧ ¬ atF (mg t.Y 0 l) (posL l) (IntKind.i64.wrap ((t.k : Int) + 1)) = 6) := by
        intro hh
        have hz : ∀ (b : Bool), b = false → b = true → False := by intro b h1 h2; rw [h1] at h2; cases h2
        exact hz _ hc (by simpa using hh)
      rw [ek] at hc
      refine And.intro (fun hs => ?_) (fun hs => ?_)
      · have hs : t.s = 1 := by simpa using hs
        have h61 : atF (mg t.Y 0 l) (posL l) ((t.k + 1 : Nat) : Int) = 6 := Classical.byContradiction fun h => hc ⟨hs, h⟩
        obtain ⟨hl1, h61⟩ := atF_6 hYl h61
        refine ⟨{ j : Nat // t.k + 1 ≤ j ∧ j ≤ t.Y.length ∧ ∀ i, t.k + 1 ≤ i → i < j → nth t.Y i = 6 }, fun j => ⟨187, ⟨16, [], .v (.int .i64 j.1)⟩ :: envR t.k t.s s0 x69 x67 x68, chW l (mg t.Y 0 l) (posL l) b n, [], dropL nats 5⟩, fun j => t.Y.length - j.1,
          ⟨[0, 1, 2, 3, 4], ⟨t.k + 1, Nat.le_refl _, hlt, fun i h1 h2 => by omega⟩, ?_⟩, fun j => ?_⟩
        · exact And.intro (And.intro (sv_i64 ek) (And.intro rfl (And.intro rfl (And.intro rfl (And.intro rfl (And.intro rfl (And.intro rfl (And.intro rfl (And.intro rfl (And.intro rfl trivial)))))))))) (ch1 rfl)
        obtain ⟨j, hj1, hj2, hj3⟩ := j
        refine Or.inl ⟨_, fun ρ S w' hm => atc _ _ _ w' rfl (rowR hm 1 2 3 rfl rfl rfl rfl rfl rfl), ?_⟩
        refine And.intro (fun hj6 => ?_) (fun hj6 => ?_)
        · have hj6 : atF (mg t.Y 0 l) (posL l) (j : Int) = 6 := by simpa using hj6
          obtain ⟨g1, g2⟩ := atF_6 hYl hj6
          exact ⟨[0, 1, 2, 3, 4], ⟨j + 1, by omega, g1, fun i h1 h2 => by
            rcases Nat.lt_or_ge i j with h | h
            · exact hj3 i h1 h
            · rw [show i = j from by omega]; exact g2⟩, And.intro (And.intro (sv_i64 (i64_succ j (by omega))) (And.intro rfl (And.intro rfl (And.intro rfl (And.intro rfl (And.intro rfl (And.intro rfl (And.intro rfl (And.intro rfl (And.intro rfl trivial)))))))))) (ch1 rfl), by show _ - (j + 1) < _ - j; omega⟩
        · have hj6 : ¬ atF (mg t.Y 0 l) (posL l) (j : Int) = 6 := by simpa using hj6
          have hend := atF_n6 hYl hj6
          obtain ⟨m, rfl⟩ : ∃ m, j = t.k + 1 + m := ⟨j - (t.k + 1), by omega⟩
          have hm : 0 < m := by
            rcases Nat.eq_zero_or_pos m with h | h
            · subst h; exact absurd h61 (hend hl1)
            · exact h
          have hset4 := setRun_mg' t.Y l 4 (t.k + 1) m hYl (by omega)
          have hT : termC (mg t.Y 0 l) (posL l) (t.k + 1) (t.k + 1 + m) = 4 := by
            have e : atF (mg t.Y 0 l) (posL l) (((t.k + 1 : Nat) : Int) - 1) = 4 := by rw [show (((t.k + 1 : Nat) : Int) - 1) = (t.k : Int) from by omega, hat, h4]
            rw [termC, if_pos (.inl e)]
          have hter := terms_s (mg t.Y 0 l) (posL l) b n (t.k + 1) (t.k + 1 + m) (by omega) (by omega) (posL_in _ _) hml (by omega)
          rw [← ek, hT, hset4] at hter
          refine Or.inr (lcall_sub [1, 2, 3] hter rfl rfl rfl rfl rfl (And.intro rfl (And.intro rfl (And.intro (And.intro rfl rfl) trivial))) ?_)
          refine Or.inr (lcall_sub [1, 2, 3, 4] (put_s (mg (setY t.Y 4 (t.k + 1) m) 0 l) (posL l) b n 1 t.k (by omega) (posL_in _ _ _ (by omega))) rfl rfl rfl rfl rfl ch4 ?_)
          exact go1 _ (t.stepL m hj2 hm h4 hs hj3) (And.intro (And.intro (tk1 rfl) (And.intro rfl (And.intro rfl (And.intro rfl (And.intro rfl (And.intro rfl (And.intro rfl (And.intro rfl (And.intro rfl trivial))))))))) (ch1 (mg_set _ _ _ _ (by omega) (by rw [setY_len]; exact hYl)))) hlt (by show t.k < t.k + 1; omega)
      · have hs : ¬ t.s = 1 := by simpa using hs
        exact go1 _ (t.stepR hlt h4 hs) (And.intro (And.intro (tk1 rfl) (And.intro rfl (And.intro rfl (And.intro rfl (And.intro rfl (And.intro rfl (And.intro rfl (And.intro rfl (And.intro rfl trivial))))))))) (ch1 rfl)) hlt (by show t.k < t.k + 1; omega)
  · have h4 : ¬ nth t.Y t.k = 4 := by rw [← hat]; simpa using h4
    exact go1 _ (t.stepO hlt ⟨h1, h2, h4, h5, h6, h8⟩) (And.intro (And.intro (tk1 rfl) (And.intro rfl (And.intro rfl (And.intro rfl (And.intro rfl (And.intro rfl (And.intro rfl (And.intro rfl (And.intro rfl trivial))))))))) (ch1 rfl)) hlt (by show t.k < t.k + 1; omega)
end Go.Proofs.Ytcpaaekghajalaa
