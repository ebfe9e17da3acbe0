/- calamuslaw17.points, where there are such points. -/
import Derived.Test.YtaiapnemlnmeiaaT20
namespace Go.Proofs.Ytaiapnemlnmeiaa
open Go Go.Eng Go.RowKit

/-- points there that lie so far from one another -/
structure PtAt (f : Font) (m b dx dy : Int) (i k u v : Nat) : Prop where
  pi : i < f.poss.length
  pk : k < (nth f.poss i).poss.length
  pu : u < (nth (nth f.poss i).poss k).marks.length
  pv : v < (nth (nth f.poss i).poss k).bases.length
  pg : (nth (nth (nth f.poss i).poss k).marks u).g = m
  pb : (nth (nth (nth f.poss i).poss k).bases v).g = b
  pc : (nth (nth (nth f.poss i).poss k).marks u).c < ((nth (nth (nth f.poss i).poss k).bases v).an.length : Int)
  phas : (nth (nth (nth (nth f.poss i).poss k).bases v).an (nth (nth (nth f.poss i).poss k).marks u).c.toNat).has = true
  px : sub32 (nth (nth (nth (nth f.poss i).poss k).bases v).an (nth (nth (nth f.poss i).poss k).marks u).c.toNat).x (nth (nth (nth f.poss i).poss k).marks u).x = dx
  py : sub32 (nth (nth (nth (nth f.poss i).poss k).bases v).an (nth (nth (nth f.poss i).poss k).marks u).c.toNat).y (nth (nth (nth f.poss i).poss k).marks u).y = dy

set_option maxHeartbeats 1000000 in
theorem points_c (f : Font) (m b dx dy : Int) (hf : FontOk f) (i0 k0 u0 v0 : Nat) (hp : PtAt f m b dx dy i0 k0 u0 v0) (vv : Value) (w : World) (hvv : FontV (· < w.heap.size) w f vv) :
    Calls Try.prog 11 #[vv, .int .u16 m, .int .u16 b, .int .i32 dx, .int .i32 dy] w fun e w' => e = .returned (.bool true) ∧ Below w.heap.size w w' := by
  obtain ⟨a, c, mm, s, sf, p, pf, rfl, h1, h2, h3, h4, h5, h6, h7⟩ := hvv.get
  refine calls_exec (cf := cf) cfok (fn := Try.f11) Try.func11 rfl [.agg (foS f 0), .v (.int .u16 m), .v (.int .u16 b), .v (.int .i32 dx), .v (.int .i32 dy)] (foC f) (ρ := rho7 a c mm s sf p pf) (· < w.heap.size) rfl rfl rfl (by simp [svOkL, svOk]) (memRd (fun _ h => h) ⟨h1, h2, h3, h4, h5, h6, h7, trivial⟩) ?_
  have hpl := hf.pl
  have hpi := hp.pi
  have hpk := hp.pk
  have hpu := hp.pu
  have hpv := hp.pv
  refine ⟨{ i : Nat // i ≤ i0 }, fun i => ⟨136, [⟨1, [], .v (.int .u16 m)⟩, ⟨2, [], .v (.int .u16 b)⟩, ⟨3, [], .v (.int .i32 dx)⟩, ⟨4, [], .v (.int .i32 dy)⟩, ⟨5, [], .bx 7 0⟩, ⟨11, [], .v (.int .i64 i.1)⟩], foC f ++ [.bx 30 (foS f 0)], [], dropL nats 8⟩, fun i => f.poss.length - i.1,
    ⟨[0, 1, 2, 3, 4, 5, 6, 7], ⟨0, Nat.zero_le _⟩, ?_⟩, fun i => ?_⟩
  · exact And.intro (And.intro (rfl) (And.intro (rfl) (And.intro (rfl) (And.intro (rfl) (And.intro (rfl) (And.intro (rfl) trivial)))))) (And.intro (rfl) (And.intro (rfl) (And.intro (rfl) (And.intro (rfl) (And.intro (rfl) (And.intro (rfl) (And.intro (rfl) (And.intro (⟨rfl, rfl⟩) trivial))))))))
  obtain ⟨i, hi0⟩ := i
  refine And.intro (fun hilt => ?_) (fun hige => absurd (of_decide_eq_false hige : ¬ (i : Int) < (f.poss.length : Int)) (by omega))
  have hilt : i < f.poss.length := by (have : (i : Int) < (f.poss.length : Int) := of_decide_eq_true hilt); omega
  have hxl := hf.ll _ (nth_mem hilt)
  refine ⟨{ k : Nat // k ≤ (nth f.poss i).poss.length ∧ (i = i0 → k ≤ k0) }, fun k => ⟨136, [⟨1, [], .v (.int .u16 m)⟩, ⟨2, [], .v (.int .u16 b)⟩, ⟨3, [], .v (.int .i32 dx)⟩, ⟨4, [], .v (.int .i32 dy)⟩, ⟨5, [], .bx 7 0⟩, ⟨11, [], .v (.int .i64 i)⟩, ⟨12, [], .v (.int .i64 k.1)⟩], foC f ++ [.bx 30 (foS f 0)], [], dropL nats 8⟩, fun k => (nth f.poss i).poss.length - k.1,
    ⟨[0, 1, 2, 3, 4, 5, 6, 7], ⟨0, Nat.zero_le _, fun _ => Nat.zero_le _⟩, ?_⟩, fun k => ?_⟩
  · exact And.intro (And.intro (rfl) (And.intro (rfl) (And.intro (rfl) (And.intro (rfl) (And.intro (rfl) (And.intro (rfl) (And.intro (rfl) trivial))))))) (And.intro (rfl) (And.intro (rfl) (And.intro (rfl) (And.intro (rfl) (And.intro (rfl) (And.intro (rfl) (And.intro (rfl) (And.intro (⟨rfl, rfl⟩) trivial))))))))
  obtain ⟨k, hk, hk0⟩ := k
  refine And.intro (show (0 : Int) ≤ (i : Int) ∧ (i : Int) < (f.poss.length : Int) from ⟨by omega, by omega⟩) ?_
  refine And.intro (fun hklt => ?_) (fun hkge => ?_)
  · have hklt : k < (nth f.poss i).poss.length := by (have : (k : Int) < ((nth f.poss i).poss.length : Int) := of_decide_eq_true hklt); omega
    have hpb := hf.ps _ (nth_mem hilt) _ (nth_mem hklt)
    have hmb := hpb.m
    have hbb := hpb.b
    refine And.intro (show (0 : Int) ≤ (i : Int) ∧ (i : Int) < (f.poss.length : Int) from ⟨by omega, by omega⟩) ?_
    refine And.intro (show (0 : Int) ≤ (k : Int) ∧ (k : Int) < ((nth f.poss i).poss.length : Int) from ⟨by omega, by omega⟩) ?_
    refine ⟨{ u : Nat // u ≤ (nth (nth f.poss i).poss k).marks.length ∧ (i = i0 → k = k0 → u ≤ u0) }, fun u => ⟨136, [⟨1, [], .v (.int .u16 m)⟩, ⟨2, [], .v (.int .u16 b)⟩, ⟨3, [], .v (.int .i32 dx)⟩, ⟨4, [], .v (.int .i32 dy)⟩, ⟨5, [], .bx 7 0⟩, ⟨11, [], .v (.int .i64 i)⟩, ⟨12, [], .v (.int .i64 k)⟩, ⟨13, [], .bx 11 0⟩, ⟨14, [], .v (.int .i64 u.1)⟩], foC f ++ [.bx 30 (foS f 0), .rd Kern inferInstance 3 keE (nth (nth f.poss i).poss k).kerns, .rd Mark inferInstance 4 maE (nth (nth f.poss i).poss k).marks, .rd Base inferInstance 2 baE (nth (nth f.poss i).poss k).bases, .bx 52 [.sl 8, .sl 9, .sl 10]], [], dropL nats 12⟩, fun u => (nth (nth f.poss i).poss k).marks.length - u.1,
      ⟨[0, 1, 2, 3, 4, 5, 6, 7, 10, 11, 12, 13], ⟨0, Nat.zero_le _, fun _ _ => Nat.zero_le _⟩, ?_⟩, fun u => ?_⟩
    · exact And.intro (And.intro (rfl) (And.intro (rfl) (And.intro (rfl) (And.intro (rfl) (And.intro (rfl) (And.intro (rfl) (And.intro (rfl) (And.intro (rfl) (And.intro (rfl) trivial))))))))) (And.intro (rfl) (And.intro (rfl) (And.intro (rfl) (And.intro (rfl) (And.intro (rfl) (And.intro (rfl) (And.intro (rfl) (And.intro (⟨rfl, rfl⟩) (And.intro (rfl) (And.intro (rfl) (And.intro (rfl) (And.intro (⟨rfl, rfl⟩) trivial))))))))))))
    obtain ⟨u, hu, hu0⟩ := u
    refine And.intro (fun hult => ?_) (fun huge => ?_)
    · have hult : u < (nth (nth f.poss i).poss k).marks.length := by (have : (u : Int) < ((nth (nth f.poss i).poss k).marks.length : Int) := of_decide_eq_true hult); omega
      have hcc := hpb.c _ (nth_mem hult)
      have hwc : IntKind.i64.wrap (nth (nth (nth f.poss i).poss k).marks u).c = (nth (nth (nth f.poss i).poss k).marks u).c := i64_id _ (by omega) (by omega)
      refine ⟨{ v : Nat // v ≤ (nth (nth f.poss i).poss k).bases.length ∧ (i = i0 → k = k0 → u = u0 → v ≤ v0) }, fun v => ⟨136, [⟨1, [], .v (.int .u16 m)⟩, ⟨2, [], .v (.int .u16 b)⟩, ⟨3, [], .v (.int .i32 dx)⟩, ⟨4, [], .v (.int .i32 dy)⟩, ⟨5, [], .bx 7 0⟩, ⟨11, [], .v (.int .i64 i)⟩, ⟨12, [], .v (.int .i64 k)⟩, ⟨13, [], .bx 11 0⟩, ⟨14, [], .v (.int .i64 u)⟩, ⟨15, [], .v (.int .i64 v.1)⟩], foC f ++ [.bx 30 (foS f 0), .rd Kern inferInstance 3 keE (nth (nth f.poss i).poss k).kerns, .rd Mark inferInstance 4 maE (nth (nth f.poss i).poss k).marks, .rd Base inferInstance 2 baE (nth (nth f.poss i).poss k).bases, .bx 52 [.sl 8, .sl 9, .sl 10]], [], dropL nats 12⟩, fun v => (nth (nth f.poss i).poss k).bases.length - v.1,
        ⟨[0, 1, 2, 3, 4, 5, 6, 7, 8, 9, 10, 11], ⟨0, Nat.zero_le _, fun _ _ _ => Nat.zero_le _⟩, ?_⟩, fun v => ?_⟩
      · exact And.intro (And.intro (rfl) (And.intro (rfl) (And.intro (rfl) (And.intro (rfl) (And.intro (rfl) (And.intro (rfl) (And.intro (rfl) (And.intro (rfl) (And.intro (rfl) (And.intro (rfl) trivial)))))))))) (And.intro (rfl) (And.intro (rfl) (And.intro (rfl) (And.intro (rfl) (And.intro (rfl) (And.intro (rfl) (And.intro (rfl) (And.intro (⟨rfl, rfl⟩) (And.intro (rfl) (And.intro (rfl) (And.intro (rfl) (And.intro (⟨rfl, rfl⟩) trivial))))))))))))
      obtain ⟨v, hv, hv0⟩ := v
      refine And.intro (fun hvlt => ?_) (fun hvge => ?_)
      · have hvlt : v < (nth (nth f.poss i).poss k).bases.length := by (have : (v : Int) < ((nth (nth f.poss i).poss k).bases.length : Int) := of_decide_eq_true hvlt); omega
        refine And.intro (show (0 : Int) ≤ (u : Int) ∧ (u : Int) < ((nth (nth f.poss i).poss k).marks.length : Int) from ⟨by omega, by omega⟩) ?_
        refine And.intro (show (0 : Int) ≤ (u : Int) ∧ (u : Int) < ((nth (nth f.poss i).poss k).marks.length : Int) from ⟨by omega, by omega⟩) ?_
        refine And.intro (fun _ => show (0 : Int) ≤ (v : Int) ∧ (v : Int) < ((nth (nth f.poss i).poss k).bases.length : Int) from ⟨by omega, by omega⟩) ?_
        refine And.intro (fun _ => show (0 : Int) ≤ (v : Int) ∧ (v : Int) < ((nth (nth f.poss i).poss k).bases.length : Int) from ⟨by omega, by omega⟩) ?_
        refine And.intro (fun hc => ?_) (fun hc => ?_)
        · have hc : ((!decide ((nth (nth (nth f.poss i).poss k).marks u).g = m) || !decide ((nth (nth (nth f.poss i).poss k).bases v).g = b)) || decide (IntKind.i64.wrap (nth (nth (nth f.poss i).poss k).marks u).c ≥ ((nth (nth (nth f.poss i).poss k).bases v).an.length : Int))) = true := hc
          rw [hwc] at hc
          exact ⟨[0, 1, 2, 3, 4, 5, 6, 7, 8, 9, 10, 11], ⟨v + 1, hvlt, fun e1 e2 e3 => by
            have := hv0 e1 e2 e3
            rcases Nat.lt_or_ge v v0 with h | h
            · exact h
            · exfalso
              have e4 : v = v0 := by omega
              have hp' : PtAt f m b dx dy i k u v := by rw [e1, e2, e3, e4]; exact hp
              rw [hp'.pg, hp'.pb, decide_eq_false (by have := hp'.pc; omega : ¬ _ ≥ _)] at hc
              simp at hc⟩, And.intro (And.intro (rfl) (And.intro (rfl) (And.intro (rfl) (And.intro (rfl) (And.intro (rfl) (And.intro (rfl) (And.intro (rfl) (And.intro (rfl) (And.intro (rfl) (And.intro (svI (i64_succ v (by omega))) trivial)))))))))) (And.intro (rfl) (And.intro (rfl) (And.intro (rfl) (And.intro (rfl) (And.intro (rfl) (And.intro (rfl) (And.intro (rfl) (And.intro (⟨rfl, rfl⟩) (And.intro (rfl) (And.intro (rfl) (And.intro (rfl) (And.intro (⟨rfl, rfl⟩) trivial)))))))))))), by show _ - (v + 1) < _ - v; omega⟩
        have hc : ((!decide ((nth (nth (nth f.poss i).poss k).marks u).g = m) || !decide ((nth (nth (nth f.poss i).poss k).bases v).g = b)) || decide (IntKind.i64.wrap (nth (nth (nth f.poss i).poss k).marks u).c ≥ ((nth (nth (nth f.poss i).poss k).bases v).an.length : Int))) = false := hc
        rw [hwc, Bool.or_eq_false_iff, decide_eq_false_iff_not] at hc
        refine And.intro (show (0 : Int) ≤ (v : Int) ∧ (v : Int) < ((nth (nth f.poss i).poss k).bases.length : Int) from ⟨by omega, by omega⟩) ?_
        refine And.intro (show (0 : Int) ≤ IntKind.i64.wrap (nth (nth (nth f.poss i).poss k).marks u).c ∧ IntKind.i64.wrap (nth (nth (nth f.poss i).poss k).marks u).c < ((nth (nth (nth f.poss i).poss k).bases v).an.length : Int) from by rw [hwc]; omega) ?_
        refine Or.inl ⟨by kernel_rfl, ?_⟩
        refine And.intro (fun _ => show (0 : Int) ≤ (u : Int) ∧ (u : Int) < ((nth (nth f.poss i).poss k).marks.length : Int) from ⟨by omega, by omega⟩) ?_
        refine And.intro (fun _ => show (0 : Int) ≤ (u : Int) ∧ (u : Int) < ((nth (nth f.poss i).poss k).marks.length : Int) from ⟨by omega, by omega⟩) ?_
        refine And.intro (fun hd => ?_) (fun hd => ?_)
        · exact fun ρ S w' hi => ⟨rfl, hi.below⟩
        · have hd : (((nth (nth (nth (nth f.poss i).poss k).bases v).an (IntKind.i64.wrap (nth (nth (nth f.poss i).poss k).marks u).c).toNat).has && decide (sub32 (nth (nth (nth (nth f.poss i).poss k).bases v).an (IntKind.i64.wrap (nth (nth (nth f.poss i).poss k).marks u).c).toNat).x (nth (nth (nth f.poss i).poss k).marks u).x = dx)) && decide (sub32 (nth (nth (nth (nth f.poss i).poss k).bases v).an (IntKind.i64.wrap (nth (nth (nth f.poss i).poss k).marks u).c).toNat).y (nth (nth (nth f.poss i).poss k).marks u).y = dy)) = false := hd
          rw [hwc] at hd
          exact ⟨[0, 1, 2, 3, 4, 5, 6, 7, 8, 9, 10, 11], ⟨v + 1, hvlt, fun e1 e2 e3 => by
            have := hv0 e1 e2 e3
            rcases Nat.lt_or_ge v v0 with h | h
            · exact h
            · exfalso
              have e4 : v = v0 := by omega
              have hp' : PtAt f m b dx dy i k u v := by rw [e1, e2, e3, e4]; exact hp
              rw [hp'.phas, hp'.px, hp'.py] at hd
              simp at hd⟩, And.intro (And.intro (rfl) (And.intro (rfl) (And.intro (rfl) (And.intro (rfl) (And.intro (rfl) (And.intro (rfl) (And.intro (rfl) (And.intro (rfl) (And.intro (rfl) (And.intro (svI (i64_succ v (by omega))) trivial)))))))))) (And.intro (rfl) (And.intro (rfl) (And.intro (rfl) (And.intro (rfl) (And.intro (rfl) (And.intro (rfl) (And.intro (rfl) (And.intro (⟨rfl, rfl⟩) (And.intro (rfl) (And.intro (rfl) (And.intro (rfl) (And.intro (⟨rfl, rfl⟩) trivial)))))))))))), by show _ - (v + 1) < _ - v; omega⟩
      have hvge : v = (nth (nth f.poss i).poss k).bases.length := by (have : ¬ (v : Int) < ((nth (nth f.poss i).poss k).bases.length : Int) := of_decide_eq_false hvge); omega
      exact ⟨[0, 1, 2, 3, 4, 5, 6, 7, 8, 9, 10, 11], ⟨u + 1, hult, fun e1 e2 => by
        have h1 := hu0 e1 e2
        rcases Nat.lt_or_ge u u0 with h | h
        · exact h
        · exfalso
          have e3 : u = u0 := by omega
          have h2 := hv0 e1 e2 e3
          subst e1 e2 e3
          omega⟩, And.intro (And.intro (rfl) (And.intro (rfl) (And.intro (rfl) (And.intro (rfl) (And.intro (rfl) (And.intro (rfl) (And.intro (rfl) (And.intro (rfl) (And.intro (svI (i64_succ u (by omega))) trivial))))))))) (And.intro (rfl) (And.intro (rfl) (And.intro (rfl) (And.intro (rfl) (And.intro (rfl) (And.intro (rfl) (And.intro (rfl) (And.intro (⟨rfl, rfl⟩) (And.intro (rfl) (And.intro (rfl) (And.intro (rfl) (And.intro (⟨rfl, rfl⟩) trivial)))))))))))), by show _ - (u + 1) < _ - u; omega⟩
    have huge : u = (nth (nth f.poss i).poss k).marks.length := by (have : ¬ (u : Int) < ((nth (nth f.poss i).poss k).marks.length : Int) := of_decide_eq_false huge); omega
    exact ⟨[0, 1, 2, 3, 4, 5, 6, 7], ⟨k + 1, hklt, fun e1 => by
      have h1 := hk0 e1
      rcases Nat.lt_or_ge k k0 with h | h
      · exact h
      · exfalso
        have e2 : k = k0 := by omega
        have h2 := hu0 e1 e2
        subst e1 e2
        omega⟩, And.intro (And.intro (rfl) (And.intro (rfl) (And.intro (rfl) (And.intro (rfl) (And.intro (rfl) (And.intro (rfl) (And.intro (svI (i64_succ k (by omega))) trivial))))))) (And.intro (rfl) (And.intro (rfl) (And.intro (rfl) (And.intro (rfl) (And.intro (rfl) (And.intro (rfl) (And.intro (rfl) (And.intro (⟨rfl, rfl⟩) trivial)))))))), by show _ - (k + 1) < _ - k; omega⟩
  have hkge : k = (nth f.poss i).poss.length := by (have : ¬ (k : Int) < ((nth f.poss i).poss.length : Int) := of_decide_eq_false hkge); omega
  exact ⟨[0, 1, 2, 3, 4, 5, 6, 7], ⟨i + 1, by
    rcases Nat.lt_or_ge i i0 with h | h
    · exact h
    · exfalso
      have e1 : i = i0 := by omega
      have h2 := hk0 e1
      subst e1
      omega⟩, And.intro (And.intro (rfl) (And.intro (rfl) (And.intro (rfl) (And.intro (rfl) (And.intro (rfl) (And.intro (svI (i64_succ i (by omega))) trivial)))))) (And.intro (rfl) (And.intro (rfl) (And.intro (rfl) (And.intro (rfl) (And.intro (rfl) (And.intro (rfl) (And.intro (rfl) (And.intro (⟨rfl, rfl⟩) trivial)))))))), by show _ - (i + 1) < _ - i; omega⟩
end Go.Proofs.Ytaiapnemlnmeiaa
