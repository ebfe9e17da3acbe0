/- The row of resolve: terms. -/
import Derived.Test.YtcpaaekghajalaaW20
namespace Go.Proofs.Ytcpaaekghajalaa
open Go Go.Eng Go.RowKit

def setRun (out : List Int) (ps : List Nat) (c : Int) (f : Nat) : Nat → List Int
  | 0 => out
  | m + 1 => (setRun out ps c f m).set (nth ps (f + m)) c
theorem setRun_len (out : List Int) (ps : List Nat) (c : Int) (f : Nat) : ∀ m, (setRun out ps c f m).length = out.length
  | 0 => rfl
  | m + 1 => by simp [setRun, setRun_len out ps c f m]
def termC (out : List Int) (ps : List Nat) (f t : Nat) : Int := if atF out ps ((f : Int) - 1) = 4 ∨ atF out ps t = 4 then 4 else 14

set_option maxHeartbeats 1000000 in
theorem terms_s (out : List Int) (ps : List Nat) (b n : Int) (f t : Nat) (hft : f ≤ t) (ht : t ≤ ps.length) (hin : ∀ j, j < ps.length → nth ps j < out.length) (hl : out.length ≤ 1000000) (hl2 : ps.length ≤ 1000000) :
    LCall Try.prog ⟨0, [], rw0 out ps b n, [], []⟩ 38 [.bx 2 0, .v (.int .i64 f), .v (.int .i64 t)] (fun st' s => st'.ch = rw0 (setRun out ps (termC out ps f t) f (t - f)) ps b n ∧ s = .tup []) := by
  obtain ⟨F, hF⟩ : ∃ F, F = setRun out ps (termC out ps f t) f (t - f) := ⟨_, rfl⟩
  rw [← hF]
  have hFl : F.length = out.length := by rw [hF]; exact setRun_len _ _ _ _ _
  have ef : IntKind.i64.wrap ((f : Int) - 1) = (f : Int) - 1 := i64_id _ (by omega) (by omega)
  refine lcall_exec (cf := cf) cfok (fn := Try.f38) Try.func38 rfl [.bx 2 0, .v (.int .i64 f), .v (.int .i64 t)] (rw0 out ps b n) (rw0 F ps b n) (.tup []) rfl rfl (by simp [svOkL, svOk]) rfl ⟨⟨by omega, rfl⟩, ⟨Nat.le_refl _, rfl⟩, trivial, trivial⟩ rfl rfl ?_
  refine Or.inl ⟨_, fun ρ S w' hm => at_c out ps b n _ _ w' hin hl (rowR hm 0 1 2 rfl rfl rfl rfl rfl rfl), ?_⟩
  refine Or.inl ⟨_, fun _ ρ S w' hm => at_c out ps b n _ _ w' hin hl (rowR hm 0 1 2 rfl rfl rfl rfl rfl rfl), ?_⟩
  refine And.intro (fun hc => ?_) (fun hc => ?_)
  case' refine_1 =>
    have hT : termC out ps f t = 4 := by
      have hc : atF out ps (IntKind.i64.wrap ((f : Int) - 1)) = 4 ∨ atF out ps t = 4 := by simpa using hc
      rw [ef] at hc
      rw [termC, if_pos hc]
  case' refine_2 =>
    have hT : termC out ps f t = 14 := by
      have hc : ¬ (atF out ps (IntKind.i64.wrap ((f : Int) - 1)) = 4 ∨ atF out ps t = 4) := by
        intro hh
        have hz : ∀ (b : Bool), b = false → b = true → False := by intro b h1 h2; rw [h1] at h2; cases h2
        exact hz _ hc (by simpa using hh)
      rw [ef] at hc
      rw [termC, if_neg hc]
  all_goals
    refine ⟨{ m : Nat // m ≤ t - f }, fun m => ⟨38, [⟨0, [], .bx 2 0⟩, ⟨2, [], .v (.int .i64 t)⟩, ⟨6, [], .v (.int .u8 (termC out ps f t))⟩, ⟨7, [], .v (.int .i64 ((f + m.1 : Nat) : Int))⟩], rw0 (setRun out ps (termC out ps f t) f m.1) ps b n, [], dropL nats 3⟩,
      fun m => t - f - m.1, ⟨[0, 1, 2], ⟨0, by omega⟩, ?_⟩, fun m => ?_⟩
    · exact And.intro (And.intro rfl (And.intro rfl (And.intro (svu hT.symm) (And.intro rfl trivial)))) (And.intro rfl (And.intro rfl (And.intro (And.intro rfl rfl) trivial)))
    obtain ⟨m, hm⟩ := m
    have hsl := setRun_len out ps (termC out ps f t) f m
    refine And.intro (fun hlt => ?_) (fun hge => ?_)
    · have hlt : f + m < t := by have : (((f + m : Nat)) : Int) < t := by simpa using hlt
                                 omega
      have hb := hin (f + m) (by omega)
      refine Or.inr (Or.inl ⟨12, by kernel_rfl, ?_⟩)
      refine And.intro ⟨by show (0 : Int) ≤ ((f + m : Nat) : Int); omega, by show ((f + m : Nat) : Int) < (ps.length : Nat); omega⟩ ?_
      refine And.intro ⟨by show (0 : Int) ≤ ((nth ps (f + m) : Nat) : Int); omega, by show ((nth ps (f + m) : Nat) : Int) < ((setRun out ps (termC out ps f t) f m).length : Nat); omega⟩ ?_
      refine ⟨_, rfl, rfl, ?_⟩
      exact ⟨[0, 1, 2], ⟨m + 1, by omega⟩, And.intro (And.intro rfl (And.intro rfl (And.intro rfl (And.intro (sv_i64 (i64_succ (f + m) (by omega))) trivial)))) (And.intro rfl (And.intro rfl (And.intro (And.intro rfl rfl) trivial))), by show _ - (m + 1) < _ - m; omega⟩
    · have hge : m = t - f := by have : ¬ (((f + m : Nat)) : Int) < t := by simpa using hge
                                 (first | omega | (dsimp only at *; omega))
      have hfin : setRun out ps (termC out ps f t) f m = F := by rw [hge, hF]
      exact ⟨[0, 1, 2], rfl, rfl, rfl, And.intro (by show ow (setRun out ps (termC out ps f t) f m) = ow F; rw [hfin]) (And.intro rfl (And.intro (And.intro rfl rfl) trivial)), rfl⟩
end Go.Proofs.Ytcpaaekghajalaa
