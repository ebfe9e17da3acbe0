/- slices.Chunk of pairs of bytes; Reader.Words. -/
import Derived.Test.YtalploampmdemaaR2
namespace Go.Proofs.Ytalploampmdemaa
open Go Go.Eng Go.RowKit

theorem chunk_c (xs : List Int) (v : Value) (w : World) (S : Nat → Prop) (hS : ∀ b, S b → b < w.heap.size) (hv : DRep S w (.sl Int inferInstance 1 bE xs) v) :
    Calls Try.prog 56 #[v, .int .i64 2] w fun e w' => ∃ vs, e = .returned (.func (.func 68) #[] vs.toArray) ∧ Below w.heap.size w w' ∧ repPs (fun b => S b ∨ (w.heap.size ≤ b ∧ b < w'.heap.size)) w' [[.sl Int inferInstance 1 bE xs], [.v (.int .i64 2)]] vs := by
  refine calls_exec2 (cf := cf) cfok rfl rfl (fn := Try.f56) Try.func56 rfl [.sl 0, .v (.int .i64 2)] [.rd Int inferInstance 1 bE xs] (ρ := fun _ => v) (· < w.heap.size) S rfl rfl rfl (by simp [svOkL, svOk]) rfl (memRd hS ⟨hv, trivial⟩) (fun b hb => ⟨hb, rd_own rfl b⟩) ?_
  refine And.intro (fun h => by cases h) (fun _ => ?_)
  exact fun ρ S w' hi => ⟨[den ρ (.bx 1 0), den ρ (.bx 2 0)], rfl, hi.below, hi.rep 9 (.bx 1 0) (.ptr [.sl Int inferInstance 1 bE xs]) rfl rfl, hi.rep 9 (.bx 2 0) (.ptr [.v (.int .i64 2)]) rfl rfl, trivial⟩

theorem pureQ_eq {P : Program} {st : St} {L : List (Nat × Bool)} {op : Op} {r r' : Value} (h : PureQ P st L op r) (e : r = r') : PureQ P st L op r' := e ▸ h
theorem addr_add (b o n : Nat) : (⟨b, o, none⟩ : Addr).add n = ⟨b, o + n, none⟩ := by
  unfold Addr.add
  split
  · rename_i h; rw [h]; rfl
  · rfl
/-- the pairs' places -/
def pairV (b o : Nat) (j : Nat) : List Value := [.slice (some ⟨b, o + 2 * j, none⟩) 2 2]
theorem ttok' : TTok Try.prog cf.tt := ttok
theorem pair_it (n : Nat) (b o cap : Nat) (hc : 2 * n ≤ cap) (hcap : n ≤ 1099511627776) (p q : Value) (w : World) (S : Nat → Prop) (hS : ∀ b, S b → b < w.heap.size)
    (hp : DRep S w (.ptr [.v (.slice (some ⟨b, o, none⟩) (2 * n) cap)]) p) (hq : DRep S w (.ptr [.v (.int .i64 2)]) q) : IterX Try.prog 68 #[p, q] n (fun j => (pairV b o j).toArray) S w := by
  obtain ⟨b1, o1, rfl⟩ : ∃ k o, p = .pointer (some ⟨k, o, none⟩) := by cases hp; exact ⟨_, _, rfl⟩
  obtain ⟨b2, o2, rfl⟩ : ∃ k o, q = .pointer (some ⟨k, o, none⟩) := by cases hq; exact ⟨_, _, rfl⟩
  refine iter_exec (cf := cf) cfok (fn := Try.f68) Try.func68 rfl [.bx 0 0, .bx 1 0] [.rp [] [.v (.slice (some ⟨b, o, none⟩) (2 * n) cap)], .rp [] [.v (.int .i64 2)]] n (pairV b o) (ρ := fun i => if i = 0 then .pointer (some ⟨b1, o1, none⟩) else .pointer (some ⟨b2, o2, none⟩)) rfl rfl (by simp [svOkL, svOk]) hS ⟨hp, hq, trivial⟩ rfl (fun l => ?_)
  refine ⟨{ j : Nat // j ≤ n }, fun j => ⟨31, [⟨0, [], .v (.func (.yield l) #[] #[])⟩, ⟨1, [], .bx 0 0⟩, ⟨2, [], .bx 1 0⟩, ⟨4, [], .v (.int .i64 (2 * (j.1 : Int)))⟩], [.rp [] [.v (.slice (some ⟨b, o, none⟩) (2 * n) cap)], .rp [] [.v (.int .i64 2)], .yk l true j.1], [], dropL nats 3⟩,
    fun j => n - j.1, ⟨[0, 1, 2], ⟨0, by omega⟩, ?_⟩, fun j => ?_⟩
  · exact And.intro (And.intro rfl (And.intro rfl (And.intro rfl (And.intro rfl trivial)))) (And.intro ⟨rfl, rfl⟩ (And.intro ⟨rfl, rfl⟩ (And.intro rfl trivial)))
  obtain ⟨j, hj⟩ := j
  refine And.intro (fun hlt => ?_) (fun hge => ?_)
  · have hlt : j < n := by have : (2 * (j : Int)) < ((2 * n : Nat) : Int) := of_decide_eq_true hlt
                           omega
    refine Or.inl ⟨by kernel_rfl, ?_⟩
    refine ⟨.slice (some ⟨b, o + 2 * j, none⟩) (2 * n - 2 * j) (cap - 2 * j), ?_, ?_⟩
    · refine pureQ_eq (pure_sliceLow ttok' (e := 5) rfl rfl rfl rfl (by first | omega | (dsimp only at *; omega)) (by first | omega | (dsimp only at *; omega))) ?_
      rw [show (2 * (j : Int)).toNat = 2 * j from by omega]
      unfold slicedV
      rw [if_neg (by first | omega | (dsimp only at *; omega))]
      rw [show (ttGet cf.tt 5).size = 1 from rfl, Nat.mul_one]
      simp only [Option.map_some, addr_add]
    refine ⟨.slice (some ⟨b, o + 2 * j, none⟩) 2 2, ?_, ?_⟩
    · have e2 : min (2 : Int) ((2 * n - 2 * j : Nat) : Int) = 2 := by omega
      have e3 : IntKind.i64.wrap (2 * (j : Int) + min (2 : Int) ((2 * n - 2 * j : Nat) : Int)) = 2 * j + 2 := by rw [e2]; exact i64_id _ (by first | omega | (dsimp only at *; omega)) (by first | omega | (dsimp only at *; omega))
      refine pureQ_eq (pure_slice3 ttok' (e := 5) rfl rfl rfl rfl rfl rfl (by first | omega | (dsimp only at *; omega)) (by rw [e3]; first | omega | (dsimp only at *; omega)) (Int.le_refl _) (by rw [e3]; first | omega | (dsimp only at *; omega))) ?_
      rw [e3]
      rw [show (2 * (j : Int)).toNat = 2 * j from by omega, show (2 * (j : Int) + 2).toNat = 2 * j + 2 from by omega, if_neg (by first | omega | (dsimp only at *; omega))]
      rw [show 2 * j + 2 - 2 * j = 2 from by omega]
      rw [show (ttGet cf.tt 5).size = 1 from rfl, Nat.mul_one, addr_add]
    refine ⟨2, j, rfl, rfl, hlt, fun _ => rfl, ?_, ?_⟩
    · refine And.intro (fun h => by cases h) (fun _ => ?_)
      refine ⟨[0, 1, 2], ⟨j + 1, hlt⟩, And.intro (And.intro rfl (And.intro rfl (And.intro rfl (And.intro (sv_i64 (by rw [i64_id _ (by first | omega | (dsimp only at *; omega)) (by first | omega | (dsimp only at *; omega))]; first | omega | (dsimp only at *; omega))) trivial)))) (And.intro ⟨rfl, rfl⟩ (And.intro ⟨rfl, rfl⟩ (And.intro rfl trivial))), by show _ - (j + 1) < _ - j; omega⟩
    · exact And.intro (fun _ => And.intro (fun h => by cases h) (by first | omega | (dsimp only at *; omega))) (fun h => by cases h)
  · have hge : j = n := by have : ¬ (2 * (j : Int)) < ((2 * n : Nat) : Int) := of_decide_eq_false hge
                           omega
    exact And.intro (fun _ => hge) (by first | omega | (dsimp only at *; omega))

theorem pair_it0 (p q : Value) (w : World) (S : Nat → Prop) (hS : ∀ b, S b → b < w.heap.size)
    (hp : DRep S w (.ptr [.sl Int inferInstance 1 bE []]) p) (hq : DRep S w (.ptr [.v (.int .i64 2)]) q) : IterX Try.prog 68 #[p, q] 0 (fun j => (pairV 0 0 j).toArray) S w := by
  obtain ⟨b1, o1, rfl⟩ : ∃ k o, p = .pointer (some ⟨k, o, none⟩) := by cases hp; exact ⟨_, _, rfl⟩
  obtain ⟨b2, o2, rfl⟩ : ∃ k o, q = .pointer (some ⟨k, o, none⟩) := by cases hq; exact ⟨_, _, rfl⟩
  refine iter_exec (cf := cf) cfok (fn := Try.f68) Try.func68 rfl [.bx 0 0, .bx 1 0] [.rp [] [.sl Int inferInstance 1 bE []], .rp [] [.v (.int .i64 2)]] 0 (pairV 0 0) (ρ := fun i => if i = 0 then .pointer (some ⟨b1, o1, none⟩) else .pointer (some ⟨b2, o2, none⟩)) rfl rfl (by simp [svOkL, svOk]) hS ⟨hp, hq, trivial⟩ rfl (fun l => ?_)
  refine ⟨Unit, fun _ => ⟨31, [⟨0, [], .v (.func (.yield l) #[] #[])⟩, ⟨1, [], .bx 0 0⟩, ⟨2, [], .bx 1 0⟩, ⟨4, [], .v (.int .i64 0)⟩], [.rp [] [.sl Int inferInstance 1 bE []], .rp [] [.v (.int .i64 2)], .yk l true 0], [], dropL nats 3⟩,
    fun _ => 0, ⟨[0, 1, 2], (), ?_⟩, fun _ => ?_⟩
  · exact And.intro (And.intro rfl (And.intro rfl (And.intro rfl (And.intro rfl trivial)))) (And.intro ⟨rfl, rfl⟩ (And.intro ⟨rfl, rfl⟩ (And.intro rfl trivial)))
  refine And.intro (fun h => by cases h) (fun _ => ?_)
  exact And.intro (fun _ => rfl) (Nat.le_refl _)

theorem nth_extI {xs ys : List Int} (hl : xs.length = ys.length) (h : ∀ j, j < xs.length → nth xs j = nth ys j) : xs = ys := by
  refine List.ext_getElem hl fun j h1 h2 => ?_
  have := h j h1
  unfold nth at this
  rw [List.getD_eq_getElem?_getD, List.getD_eq_getElem?_getD, List.getElem?_eq_getElem h1, List.getElem?_eq_getElem h2] at this
  exact this
abbrev hE : Int → List DV := fun n => [.v (.int .u16 n)]
/-- the j-th pair of bytes -/
def pairD (xs : List Int) (j : Nat) : List DV := [.sl Int inferInstance 1 bE (midL xs (2 * j) (2 * j + 2))]
theorem pairs_it (xs : List Int) (n : Nat) (hx : xs.length = 2 * n) (hn : n ≤ 1099511627776) (p q : Value) (w : World) (S : Nat → Prop) (hS : ∀ b, S b → b < w.heap.size)
    (hp : DRep S w (.ptr [.sl Int inferInstance 1 bE xs]) p) (hq : DRep S w (.ptr [.v (.int .i64 2)]) q) : ∃ vals : Nat → List Value, (∀ j, j < n → repYs S w (pairD xs j) (vals j)) ∧ IterX Try.prog 68 #[p, q] n (fun j => (vals j).toArray) S w := by
  rcases Nat.eq_zero_or_pos n with h0 | hpos
  · subst h0
    have : xs = [] := List.eq_nil_of_length_eq_zero (by omega)
    subst this
    exact ⟨pairV 0 0, fun j h => absurd h (Nat.not_lt_zero _), pair_it0 p q w S hS hp hq⟩
  · have hne : xs ≠ [] := fun e => by rw [e] at hx; simp at hx; omega
    have hp' := hp
    cases hp with
    | ptr b1 o1 cell1 hb1 hcell1 hrep1 =>
    have hr := hrep1 0 _ rfl
    have hc0 := hcell1 0 _ rfl
    generalize hu : cell1 0 = u at hr hc0
    cases hr with
    | sl ad c b o cell hc hn' hcell hrep =>
    obtain ⟨had, hSb⟩ := hn' hne
    subst had
    refine ⟨pairV b o, fun j hj => ⟨?_, trivial⟩, pair_it n b o c (by omega) hn _ q w S hS ?_ hq⟩
    · have hl : (midL xs (2 * j) (2 * j + 2)).length = 2 := by rw [midL_len _ _ _ (by omega)]; omega
      have := DRep.sl (S := S) (w := w) (inh := inferInstanceAs (Inhabited Int)) (sz := 1) (enc := bE) (xs := midL xs (2 * j) (2 * j + 2)) (some ⟨b, o + 2 * j, none⟩) 2 b (o + 2 * j) (fun i k => cell (2 * j + i) k) (by omega) (fun _ => ⟨rfl, hSb⟩)
        (fun i k d hi hd => by
          rw [nth_mid xs (2 * j) (2 * j + 2) i (by omega) (by omega)] at hd
          have := hcell (2 * j + i) k d (by omega) hd
          rw [show o + 2 * j + i * 1 + k = o + (2 * j + i) * 1 + k from by omega]
          exact this)
        (fun i k d hi hd => by
          rw [nth_mid xs (2 * j) (2 * j + 2) i (by omega) (by omega)] at hd
          exact hrep (2 * j + i) k d (by omega) hd)
      rw [hl] at this
      exact this
    · rw [← hx]
      refine .ptr b1 o1 (fun _ => .slice (some ⟨b, o, none⟩) xs.length c) hb1 (fun j d hd => ?_) (fun j d hd => ?_)
      · cases j with
        | zero => exact hc0
        | succ j => simp at hd
      · cases j with
        | zero => simp at hd; subst hd; exact .v _ rfl
        | succ j => simp at hd

/-- a number of two bytes -/
def wordOf (p : List Int) : Int := bitsV .or .u16 (shlV .u16 (IntKind.u16.wrap (nth p 0)) 8) (IntKind.u16.wrap (nth p 1))
def wordsL (xs : List Int) (n : Nat) : List Int := (List.range n).map fun j => wordOf (midL xs (2 * j) (2 * j + 2))
theorem wordsL_succ (xs : List Int) (n : Nat) : wordsL xs (n + 1) = wordsL xs n ++ [wordOf (midL xs (2 * n) (2 * n + 2))] := by
  unfold wordsL; rw [List.range_succ, List.map_append]; rfl
theorem wordsL_len (xs : List Int) (n : Nat) : (wordsL xs n).length = n := by unfold wordsL; simp

theorem words_c (b : List Int) (at' n : Int) (hb : b.length ≤ 1000000) (hn : 0 ≤ n) (ho : outR b at' (2 * n) = false) (v : Value) (w : World) (hv : Rdr w v b) :
    Calls Try.prog 37 #[v, .int .i64 at', .int .i64 n] w fun e w' => ∃ u, e = .returned u ∧ Below w.heap.size w w' ∧ Fresh w w' u 31 1 hE (wordsL (midL b at'.toNat (at' + 2 * n).toNat) n.toNat) := by
  obtain ⟨k, o, rfl⟩ := hv.val
  obtain ⟨h1, h2, h3⟩ := outR_iff.1 ho
  have hw2 : IntKind.i64.wrap (2 * n) = 2 * n := i64_id _ (by omega) (by omega)
  refine calls_exec (cf := cf) cfok (fn := Try.f37) Try.func37 rfl [.bx 0 0, .v (.int .i64 at'), .v (.int .i64 n)] [.rp [] (rdD b)] (ρ := fun _ => .pointer (some ⟨k, o, none⟩)) (· < w.heap.size) rfl rfl rfl (by simp [svOkL, svOk]) (memRd (fun _ h => h) ⟨hv, trivial⟩) ?_
  refine Or.inl ⟨_, fun _ ρ S w hm => len_c b _ w (hm.rp 0 rfl rfl), ?_⟩
  refine And.intro (fun h => ?_) (fun _ => ?_)
  · have h : (decide (n < 0) || decide (n > (b.length : Int))) = true := h
    rw [decide_eq_false (by omega), decide_eq_false (by omega)] at h
    cases h
  refine Or.inr (lcall_sub [0] (row_s b at' (2 * n) (by omega) ho) (by rw [hw2]; rfl) rfl rfl rfl rfl ⟨⟨rfl, rfl⟩, trivial⟩ ?_)
  have hxl : (midL b at'.toNat (at' + 2 * n).toNat).length = 2 * n.toNat := by rw [midL_len _ _ _ (by omega)]; omega
  generalize midL b at'.toNat (at' + 2 * n).toNat = xs at *
  refine And.intro (fun h => by cases h) (fun _ => ?_)
  refine ⟨Int, inferInstance, hE, hn, by show 2 * n ≤ _; omega, by omega, ?_⟩
  refine Or.inr (lcall_fnRps 68 [[.sl Int inferInstance 1 bE xs], [.v (.int .i64 2)]] (fun ρ S w hm => chunk_c xs _ w S hm.lt (hm.rdS 1 rfl rfl)) ?_)
  refine ⟨n.toNat, pairD xs, 2, [⟨9, [], .bx 1 0⟩], { j : Nat // j ≤ n.toNat }, fun j => [.rp [] (rdD b), .bx 58 [.sl 2], .own 31 Int inferInstance 1 hE (wordsL xs j.1)], fun j => j.1,
    fun ρ S w hm => pairs_it xs n.toNat hxl (by omega) _ _ w S hm.lt (hm.rpS 4 rfl rfl) (hm.rpS 5 rfl rfl), fun j => rfl, rfl, rfl, fun j => rfl, fun j => rfl, rfl, rfl, ⟨[0, 3, 2], ⟨0, Nat.zero_le _⟩, rfl, ?_⟩, ?_, ?_⟩
  · exact And.intro (And.intro rfl trivial) (And.intro ⟨rfl, rfl⟩ (And.intro (And.intro rfl rfl) (And.intro rfl trivial)))
  · rintro ⟨j, hj⟩ hlt
    have hlt : j < n.toNat := hlt
    have hl : (midL xs (2 * j) (2 * j + 2)).length = 2 := by rw [midL_len _ _ _ (by omega)]; omega
    refine Or.inr (Or.inr (Or.inl ⟨[0, 1, 2, 3, 4, 5, 6, 7, 8, 9, 10, 11], [11], [12, 13], by kernel_rfl, ?_⟩))
    refine And.intro ⟨by decide, by rw [hl]; decide⟩ ?_
    refine And.intro (show (0 : Int) ≤ 8 by decide) ?_
    refine And.intro ⟨by decide, by rw [hl]; decide⟩ ?_
    refine ⟨[wordOf (midL xs (2 * j) (2 * j + 2))], And.intro rfl (And.intro rfl (fun y hy => rfl)), ?_, ?_⟩
    · show ((wordsL xs j).length + 1) * 2 ≤ _
      rw [wordsL_len]; omega
    · exact ⟨[0, 1, 5], ⟨j + 1, hlt⟩, rfl, And.intro (And.intro rfl trivial) (And.intro ⟨rfl, rfl⟩ (And.intro (And.intro rfl rfl) (And.intro (by rw [wordsL_succ]; rfl) trivial)))⟩
  · rintro ⟨j, hj⟩ he
    have he : j = n.toNat := he
    subst he
    exact fun ρ S w' hi => ⟨_, rfl, hi.below, hi.fresh 2 ⟨fun n => [.int .u16 n], fun _ => rfl⟩ rfl rfl⟩
end Go.Proofs.Ytalploampmdemaa
