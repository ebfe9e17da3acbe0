/- resolve.Neutral: it computes neuX, for every row. -/
import Derived.Test.YtcpaaekghajalaaW3
namespace Go.Proofs.Ytcpaaekghajalaa
open Go Go.Eng Go.RowKit

structure BSt (xs : List Int) (e : Int) where
  j : Nat
  hj : j ≤ xs.length
  B : List Int
  hB : B.length = xs.length
  hb : ∀ i, xs.length - j ≤ i → i < xs.length → nth B i = bh e (xs.drop (i + 1))

structure FSt (xs : List Int) (lv sos eos : Int) where
  i : Nat
  hi : i ≤ xs.length
  out : List Int
  ho : out.length = xs.length
  h1 : ∀ j, j < i → nth out j = nth (neuX xs lv sos eos) j
  h2 : ∀ j, i ≤ j → j < xs.length → nth out j = nth xs j

def chB (xs out B : List Int) (d : Int) : List Chunk := [.rd Int inferInstance 1 cE xs, .own 23 Int inferInstance 1 cE out, .own 23 Int inferInstance 1 cE B, .bx 22 [.sl 2], .bx 23 [.v (.int .u8 d)]]

theorem neuX_nth (xs : List Int) (lv sos eos : Int) (j : Nat) (h : j < xs.length) : nth (neuX xs lv sos eos) j =
    if neuF (nth xs j) then (if dA (edgeF sos) (xs.take j) = bh (edgeF eos) (xs.drop (j + 1)) ∧ dA (edgeF sos) (xs.take j) ≠ 0 then dA (edgeF sos) (xs.take j) else sideOf lv) else nth xs j := fw_nth _ _ _ _ _ h

def FSt.keep {xs : List Int} {lv sos eos : Int} (s : FSt xs lv sos eos) (h : s.i < xs.length) (hn : neuF (nth xs s.i) = false) : FSt xs lv sos eos where
  i := s.i + 1
  hi := h
  out := s.out
  ho := s.ho
  h1 j hj := by
    rcases Nat.lt_or_ge j s.i with hlt | hge
    · exact s.h1 j hlt
    · have : j = s.i := by omega
      subst this
      rw [s.h2 _ (Nat.le_refl _) h, neuX_nth _ _ _ _ _ h, hn]; rfl
  h2 j h3 h4 := s.h2 j (by omega) h4
def FSt.put {xs : List Int} {lv sos eos : Int} (s : FSt xs lv sos eos) (h : s.i < xs.length) (y : Int) (hy : nth (neuX xs lv sos eos) s.i = y) : FSt xs lv sos eos where
  i := s.i + 1
  hi := h
  out := s.out.set s.i y
  ho := by simp [s.ho]
  h1 j hj := by
    rw [nth_set _ _ _ _ (by rw [s.ho]; exact h)]
    split
    · rename_i e; rw [e, hy]
    · exact s.h1 j (by omega)
  h2 j h3 h4 := by
    rw [nth_set _ _ _ _ (by rw [s.ho]; exact h), if_neg (by omega)]
    exact s.h2 j (by omega) h4
def BSt.put {xs : List Int} {e : Int} (s : BSt xs e) (h : s.j < xs.length) : BSt xs e where
  j := s.j + 1
  hj := h
  B := s.B.set (((xs.length - 1 - s.j : Nat) : Int).toNat) (bh e (xs.drop (xs.length - s.j)))
  hB := by simp [s.hB]
  hb i h1 h2 := by
    have hj := s.hj
    rw [Int.toNat_natCast, nth_set _ _ _ _ (by rw [s.hB]; omega)]
    split
    · rename_i e1; rw [show xs.length - s.j = i + 1 from by omega]
    · rename_i e1; exact s.hb i (by omega) h2

set_option maxHeartbeats 4000000 in
theorem neu_c (xs : List Int) (lv sos eos : Int) (v : Value) (w : World) (hl : xs.length ≤ 1000000) (hlv : 0 ≤ lv ∧ lv ≤ 255) (hv : Rd w v 1 cE xs) :
    Calls Try.prog 18 #[v, .int .u8 lv, .int .u8 sos, .int .u8 eos] w fun e w' => ∃ u, e = .returned u ∧ Below w.heap.size w w' ∧ Fresh w w' u 23 1 cE (neuX xs lv sos eos) := by
  refine calls_exec (cf := cf) cfok (fn := Try.f18) Try.func18 rfl [.sl 0, .v (.int .u8 lv), .v (.int .u8 sos), .v (.int .u8 eos)] [.rd Int inferInstance 1 cE xs] (ρ := fun _ => v) (· < w.heap.size) rfl rfl rfl (by simp [svOkL, svOk]) (memRd (fun _ h => h) ⟨hv, trivial⟩) ?_
  refine Or.inr (lcall_fresh xs (fun ρ S w' hm => clone_c xs _ w' hl (hm.rd 0 rfl rfl)) ?_)
  refine ⟨Int, inferInstance, cE, 0, rfl, by omega, by show 1 * _ ≤ _; omega, by omega, rfl, ?_⟩
  refine Or.inl ⟨_, fun ρ S w' hm => edge_c _ _, ?_⟩
  refine Or.inr (lcall_fnRp 44 [.sl Int inferInstance 1 cE xs] (fun ρ S w' hm => backward_c xs _ w' S hm.lt (hm.rdS 0 rfl rfl)) ?_)
  refine ⟨xs.length, backV xs, 5, [⟨0, [], .sl 0⟩, ⟨1, [], .v (.int .u8 lv)⟩, ⟨2, [], .v (.int .u8 sos)⟩, ⟨9, [], .sl 1⟩, ⟨10, [], .bx 3 0⟩, ⟨11, [], .bx 4 0⟩], BSt xs (edgeF eos),
    fun i => chB xs xs i.B (bh (edgeF eos) (xs.drop (xs.length - i.j))), fun i => i.j, fun ρ S w' hm => back_iter xs _ w' S hl hm.lt (hm.rpS 5 rfl rfl), fun _ => rfl, rfl, rfl, fun _ => rfl, fun _ => rfl, rfl, rfl, ⟨[0, 1, 2, 3, 4], ⟨0, by omega, List.replicate xs.length 0, by simp, fun i h1 h2 => by omega⟩, rfl, ?_⟩, fun i hi => ?_, fun i hi => ?_⟩
  · exact And.intro (And.intro rfl (And.intro rfl (And.intro rfl (And.intro rfl (And.intro rfl (And.intro rfl trivial)))))) (And.intro rfl (And.intro rfl (And.intro rfl (And.intro (And.intro rfl rfl) (And.intro (And.intro rfl (by
      have : xs.drop (xs.length - 0) = [] := by simp
      show [SV.v (.int .u8 (edgeF eos))] = [SV.v (.int .u8 (bh (edgeF eos) (xs.drop (xs.length - 0))))]
      rw [this]; rfl)) trivial)))))
  · have hi : i.j < xs.length := hi
    have hB := i.hB
    have hbs := bh_step (edgeF eos) xs (xs.length - 1 - i.j) (by omega)
    rw [show xs.length - 1 - i.j + 1 = xs.length - i.j from by omega] at hbs
    have hdr : xs.length - (i.j + 1) = xs.length - 1 - i.j := by omega
    refine And.intro ⟨by (first | omega | (dsimp only at *; omega)), by (first | omega | (dsimp only at *; omega))⟩ ?_
    refine ⟨_, rfl, rfl, ?_⟩
    refine Or.inl ⟨_, fun _ ρ S w' hm => neutral_c _ _, ?_⟩
    refine And.intro (fun ht => ?_) (fun ht => ?_)
    · have ht : tells (nth xs (xs.length - 1 - i.j)) = true := ht
      rw [if_pos ht] at hbs
      refine Or.inl ⟨_, fun ρ S w' hm => side_c _ _, ?_⟩
      refine ⟨[0, 1, 2, 3, 4], i.put hi, rfl, And.intro (And.intro rfl (And.intro rfl (And.intro rfl (And.intro rfl (And.intro rfl (And.intro rfl trivial)))))) (And.intro rfl (And.intro rfl (And.intro rfl (And.intro (And.intro rfl rfl) (And.intro (And.intro rfl ?_) trivial)))))⟩
      show [SV.v (.int .u8 (sideF (nth xs (xs.length - 1 - i.j))))] = [SV.v (.int .u8 (bh (edgeF eos) (xs.drop (xs.length - (i.j + 1)))))]
      rw [hdr, hbs]
    · have ht : tells (nth xs (xs.length - 1 - i.j)) = false := ht
      rw [if_neg (by rw [ht]; simp)] at hbs
      refine ⟨[0, 1, 2, 3, 4], i.put hi, rfl, And.intro (And.intro rfl (And.intro rfl (And.intro rfl (And.intro rfl (And.intro rfl (And.intro rfl trivial)))))) (And.intro rfl (And.intro rfl (And.intro rfl (And.intro (And.intro rfl rfl) (And.intro (And.intro rfl ?_) trivial)))))⟩
      show [SV.v (.int .u8 (bh (edgeF eos) (xs.drop (xs.length - i.j))))] = [SV.v (.int .u8 (bh (edgeF eos) (xs.drop (xs.length - (i.j + 1)))))]
      rw [hdr, hbs]
  · have hi : i.j = xs.length := hi
    obtain ⟨j, hj, B, hB, hb⟩ := i
    have hi : j = xs.length := hi
    subst hi
    refine Or.inl ⟨_, fun ρ S w' hm => edge_c _ _, ?_⟩
    refine ⟨FSt xs lv sos eos, fun s => ⟨82, [⟨1, [], .v (.int .u8 lv)⟩, ⟨9, [], .sl 1⟩, ⟨10, [], .bx 3 0⟩, ⟨11, [], .bx 4 0⟩, ⟨42, [], .sl 0⟩, ⟨43, [], .v (.int .i64 xs.length)⟩, ⟨44, [], .v (.int .i64 s.i)⟩], chB xs s.out B (dA (edgeF sos) (xs.take s.i)), [], dropL nats 5⟩,
      fun s => xs.length - s.i, ⟨[0, 1, 2, 3, 4], ⟨0, by omega, xs, rfl, fun j h => by omega, fun j _ _ => rfl⟩, ?_⟩, fun s => ?_⟩
    · exact And.intro (And.intro rfl (And.intro rfl (And.intro rfl (And.intro rfl (And.intro rfl (And.intro rfl (And.intro rfl trivial))))))) (And.intro rfl (And.intro rfl (And.intro rfl (And.intro (And.intro rfl rfl) (And.intro (And.intro rfl rfl) trivial)))))
    · have hsi := s.hi
      have hso := s.ho
      refine And.intro (fun hlt => ?_) (fun hge => ?_)
      · have hlt : s.i < xs.length := by simpa using hlt
        have hds := dA_step (edgeF sos) xs s.i hlt
        have fin : ∀ (s' : FSt xs lv sos eos) (d' : Int), s'.i = s.i + 1 → d' = dA (edgeF sos) (xs.take (s.i + 1)) → SV.v (.int .i64 (IntKind.i64.wrap ((s.i : Int) + 1))) = SV.v (.int .i64 s'.i) ∧ [SV.v (.int .u8 d')] = [SV.v (.int .u8 (dA (edgeF sos) (xs.take s'.i)))] := by
          intro s' d' h1 h2
          rw [h1, h2]
          exact ⟨sv_i64 (i64_succ s.i (by omega)), rfl⟩
        refine And.intro ⟨by (first | omega | (dsimp only at *; omega)), by (first | omega | (dsimp only at *; omega))⟩ ?_
        refine And.intro (fun h10 => ?_) (fun h10 => ?_)
        · have h10 : nth xs s.i = 10 := by simpa using h10
          rw [h10] at hds
          obtain ⟨f1, f2⟩ := fin (s.keep hlt (by rw [h10]; decide)) (dA (edgeF sos) (xs.take s.i)) rfl (by rw [hds]; rfl)
          exact ⟨[0, 1, 2, 3, 4], s.keep hlt (by rw [h10]; decide), And.intro (And.intro rfl (And.intro rfl (And.intro rfl (And.intro rfl (And.intro rfl (And.intro rfl (And.intro f1 trivial))))))) (And.intro rfl (And.intro rfl (And.intro rfl (And.intro (And.intro rfl rfl) (And.intro (And.intro rfl f2) trivial))))), by show _ - (s.i + 1) < _ - s.i; omega⟩
        · have h10 : ¬ nth xs s.i = 10 := by simpa using h10
          refine Or.inl ⟨_, fun ρ S w' hm => neutral_c _ _, ?_⟩
          refine And.intro (fun hn => ?_) (fun hn => ?_)
          · have hn : neuF (nth xs s.i) = false := by simpa using hn
            refine Or.inl ⟨_, fun ρ S w' hm => side_c _ _, ?_⟩
            obtain ⟨f1, f2⟩ := fin (s.keep hlt hn) (sideF (nth xs s.i)) rfl (by rw [hds, if_pos (by simp [tells, h10, hn])])
            exact ⟨[0, 1, 2, 3, 4], s.keep hlt hn, And.intro (And.intro rfl (And.intro rfl (And.intro rfl (And.intro rfl (And.intro rfl (And.intro rfl (And.intro f1 trivial))))))) (And.intro rfl (And.intro rfl (And.intro rfl (And.intro (And.intro rfl rfl) (And.intro (And.intro rfl f2) trivial))))), by show _ - (s.i + 1) < _ - s.i; omega⟩
          · have hn : neuF (nth xs s.i) = true := by simpa using hn
            rw [if_neg (by simp [tells, hn])] at hds
            have hxn := neuX_nth xs lv sos eos s.i hlt
            rw [if_pos hn] at hxn
            have hbi := hb s.i (by omega) hlt
            refine Or.inl ⟨by kernel_rfl, ?_⟩
            refine And.intro ⟨by (first | omega | (dsimp only at *; omega)), by (first | omega | (dsimp only at *; omega))⟩ ?_
            refine And.intro (fun he => ?_) (fun he => ?_)
            · have he : dA (edgeF sos) (xs.take s.i) = nth B s.i ∧ dA (edgeF sos) (xs.take s.i) ≠ 0 := by simpa using he
              rw [hbi] at he
              rw [if_pos he] at hxn
              refine And.intro ⟨by (first | omega | (dsimp only at *; omega)), by (first | omega | (dsimp only at *; omega))⟩ ?_
              refine ⟨_, rfl, rfl, ?_⟩
              obtain ⟨f1, f2⟩ := fin (s.put hlt _ hxn) (dA (edgeF sos) (xs.take s.i)) rfl hds.symm
              exact ⟨[0, 1, 2, 3, 4], s.put hlt _ hxn, And.intro (And.intro rfl (And.intro rfl (And.intro rfl (And.intro rfl (And.intro rfl (And.intro rfl (And.intro f1 trivial))))))) (And.intro rfl (And.intro rfl (And.intro rfl (And.intro (And.intro rfl rfl) (And.intro (And.intro rfl f2) trivial))))), by show _ - (s.i + 1) < _ - s.i; omega⟩
            · have he : ¬ (dA (edgeF sos) (xs.take s.i) = nth B s.i ∧ dA (edgeF sos) (xs.take s.i) ≠ 0) := by simpa using he
              rw [hbi] at he
              rw [if_neg he] at hxn
              have hz := and1 lv hlv.1 hlv.2
              refine ⟨.int .u8 (sideOf lv), pure_index ttok rfl rfl rfl rfl rfl rfl (by rw [hz]; omega) (by rw [hz]; omega) (by
                rw [hz]
                unfold sideOf
                split
                · rename_i e; rw [e]; rfl
                · rename_i e; rw [show lv % 2 = 0 from by omega]; rfl), ?_⟩
              refine And.intro ⟨by (first | omega | (dsimp only at *; omega)), by (first | omega | (dsimp only at *; omega))⟩ ?_
              refine ⟨_, rfl, rfl, ?_⟩
              obtain ⟨f1, f2⟩ := fin (s.put hlt _ hxn) (dA (edgeF sos) (xs.take s.i)) rfl hds.symm
              exact ⟨[0, 1, 2, 3, 4], s.put hlt _ hxn, And.intro (And.intro rfl (And.intro rfl (And.intro rfl (And.intro rfl (And.intro rfl (And.intro rfl (And.intro f1 trivial))))))) (And.intro rfl (And.intro rfl (And.intro rfl (And.intro (And.intro rfl rfl) (And.intro (And.intro rfl f2) trivial))))), by show _ - (s.i + 1) < _ - s.i; omega⟩
      · have hge : s.i = xs.length := by have : ¬ s.i < xs.length := by simpa using hge
                                         omega
        have : s.out = neuX xs lv sos eos := nth_ext (by rw [hso, neuX_len]) (fun j hj => s.h1 j (by omega))
        rw [← this]
        exact fun ρ S w' hi => ⟨_, rfl, hi.below, hi.fresh 1 cE_flat rfl rfl⟩
end Go.Proofs.Ytcpaaekghajalaa
