/- The row of resolve: first. -/
import Derived.Test.YtcpaaekghajalaaW19
namespace Go.Proofs.Ytcpaaekghajalaa
open Go Go.Eng Go.RowKit

theorem cellsEq {zb zn B N : Int} (h1 : zb = B) (h2 : zn = N) : ([SV.sl 0, SV.sl 1, .v (.int .u8 zb), .v (.int .u8 zn)] : List SV) = [.sl 0, .sl 1, .v (.int .u8 B), .v (.int .u8 N)] := by rw [h1, h2]
theorem iso_ne {c : Int} (h : isoF c = true) : c ≠ 1 ∧ c ≠ 2 ∧ c ≠ 3 ∧ c ≠ 4 := by
  unfold isoF at h; simp at h; omega

theorem first_s (out : List Int) (ps : List Nat) (b n c : Int) : LCall Try.prog ⟨0, [], rw0 out ps b n, [], []⟩ 35 [.bx 2 0, .v (.int .u8 c)]
    (fun st' s => st'.ch = rw0 out ps (w1t b c) (w2t n (w1g b c)) ∧ s = .v (.int .u8 (w3f (w2g n (w1g b c))))) := by
  refine lcall_exec (cf := cf) cfok (fn := Try.f35) Try.func35 rfl [.bx 2 0, .v (.int .u8 c)] (rw0 out ps b n) (rw0 out ps (w1t b c) (w2t n (w1g b c))) (.v (.int .u8 (w3f (w2g n (w1g b c))))) rfl rfl (by simp [svOkL, svOk]) rfl ⟨⟨Nat.le_refl _, rfl⟩, ⟨Nat.le_refl _, rfl⟩, trivial, trivial⟩ rfl rfl ?_
  refine And.intro (fun h9 => ?_) (fun h9 => ?_)
  case' refine_1 =>
    have h9 : c = 9 := by simpa using h9
    have hC : w1g b c = b := by simp [w1g, h9]
  case' refine_2 =>
    have h9 : ¬ c = 9 := by simpa using h9
    have hC : w1g b c = c := by simp [w1g, h9]
  all_goals
    refine Or.inl ⟨_, fun ρ S w' hm => isolate_c _ _, ?_⟩
    refine And.intro (fun hi => ?_) (fun hi => ?_)
    · have hn := iso_ne hi
      refine And.intro (fun h3 => ?_) (fun h3 => ?_)
      · simp [hn.2.2.1] at h3
      · exact ⟨[0, 1, 2], rfl, rfl, rfl, And.intro rfl (And.intro rfl (And.intro (And.intro rfl (cellsEq (by simp only [w1t, hC]; rw [if_pos hi]) (by simp only [w2t, hC]; rw [if_neg (by simp [hn])]))) trivial)), svu (by rw [hC]; simp [w2g, w3f, hn])⟩
    · have hi' : w1t b c = w1g b c := by simp only [w1t, hC]; rw [if_neg (by rw [hi]; simp)]
      refine And.intro (fun h123 => ?_) (fun h123 => ?_)
      · refine And.intro (fun h3 => ?_) (fun h3 => ?_)
        · have h3 := of_decide_eq_true h3
          exact ⟨[0, 1, 2], rfl, rfl, rfl, And.intro rfl (And.intro rfl (And.intro (And.intro rfl (cellsEq (by rw [hi', hC]) (by rw [hC]; simp [w2t, h3]))) trivial)), svu (by rw [hC]; simp [w2g, w3f, h3])⟩
        · have h3 := of_decide_eq_false h3
          refine ⟨[0, 1, 2], rfl, rfl, rfl, And.intro rfl (And.intro rfl (And.intro (And.intro rfl (cellsEq (by rw [hi', hC]) (by rw [hC]; simp at h123; simp only [w2t]; rw [if_pos (by rcases h123 with (h | h) | h; exact .inl h; exact .inr (.inl h); exact .inr (.inr h))]))) trivial)), svu (by
            rw [hC]
            simp at h123
            rcases h123 with (h | h) | h
            · simp [w2g, w3f, h]
            · simp [w2g, w3f, h]
            · exact absurd h h3)⟩
      · have h123' : w2t n (w1g b c) = n := by
          rw [hC, w2t, if_neg]
          intro hh
          have hz : ∀ (b : Bool), b = false → b = true → False := by intro b h1 h2; rw [h1] at h2; cases h2
          refine hz _ h123 ?_
          rcases hh with h | h | h <;> simp [h]
        refine And.intro (fun h4 => ?_) (fun h4 => ?_)
        · simp at h4
          obtain ⟨h4, h5⟩ := h4
          exact ⟨[0, 1, 2], rfl, rfl, rfl, And.intro rfl (And.intro rfl (And.intro (And.intro rfl (cellsEq (by rw [hi', hC, h4]) h123'.symm)) trivial)), svu (by rw [hC]; simp [w2g, w3f, h4, h5])⟩
        · have h4' : w2g n (w1g b c) = w1g b c := by
            rw [hC, w2g, if_neg]
            rintro ⟨a1, a2⟩
            have hz : ∀ (b : Bool), b = false → b = true → False := by intro b h1 h2; rw [h1] at h2; cases h2
            refine hz _ h4 ?_
            simp [a1, a2]
          refine And.intro (fun h3 => ?_) (fun h3 => ?_)
          · have h3 := of_decide_eq_true h3
            exact ⟨[0, 1, 2], rfl, rfl, rfl, And.intro rfl (And.intro rfl (And.intro (And.intro rfl (cellsEq (by rw [hi', hC]) h123'.symm)) trivial)), svu (by rw [h4', hC]; simp [w3f, h3])⟩
          · have h3 := of_decide_eq_false h3
            exact ⟨[0, 1, 2], rfl, rfl, rfl, And.intro rfl (And.intro rfl (And.intro (And.intro rfl (cellsEq (by rw [hi', hC]) h123'.symm)) trivial)), svu (by rw [h4', hC]; simp [w3f, h3])⟩
end Go.Proofs.Ytcpaaekghajalaa
