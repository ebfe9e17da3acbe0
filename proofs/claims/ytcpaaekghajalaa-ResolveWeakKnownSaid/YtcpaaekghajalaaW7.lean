/- resolve.Levels and its reference: what they compute, for every row. -/
import Derived.Test.YtcpaaekghajalaaW6
namespace Go.Proofs.Ytcpaaekghajalaa
open Go Go.Eng Go.RowKit

theorem pure_indexA {P : Program} {tt : TT} {st : St} {L : List (Nat × Bool)} (htt : TTok P tt) {t : Nat} {x i : Operand} {n e : Nat} {s1 : SV} {l : List Value} {k : IntKind} {z : Int} {r : Value} (hd : (ttGet tt t).d = .arr n e) (hk : knownD (ttGet tt e).d = true) (ha : isAggD (ttGet tt e).d = false) (hs : (ttGet tt e).size = 1)
    (hx : getV st L x = some s1) (h1 : ∀ ρ, den ρ s1 = .agg l.toArray) (hi : getV st L i = some (.v (.int k z))) (h0 : 0 ≤ z) (h2 : z < n) (hl : l[z.toNat]? = some r) : PureQ P st L (.index t x i) r := by
  intro ρ S w ev o hm hL he ho
  have hdesc := tyOk_desc (htt t) (by rw [hd]; simp)
  rw [hd] at hdesc
  have e1 := he x _ hx
  have e2 := he i _ hi
  rw [h1] at e1
  simp only [den] at e2
  have hno : (ttGet tt e).d ≠ .other := by intro e; rw [e] at hk; simp [knownD] at hk
  have hsz := sizeOf_run (P := P) (htt e) hno w
  have hpart := part_run (P := P) (ρ := ρ) (htt e) hk (l.map .v) z.toNat (.v r) (.inl ⟨ha, by
    rw [dropL_eq, dropL_eq]
    have hlt := (List.getElem?_eq_some_iff.1 hl).1
    rw [List.drop_eq_getElem_cons (by simpa using hlt)]
    simp [(List.getElem?_eq_some_iff.1 hl).2]⟩) w
  simp only [den, denL_v] at hpart
  rw [hs] at hsz
  have hu : P.underlying t = some (.array n e) := hdesc
  simp [execOp, ho, e1, e2, Instr.index, asIntOf, run_underlying hu, h0, h2, hsz, hpart]

def moreF (c : Int) : Int × Int := if c = 2 then (1, 0) else if c = 1 then (0, 1) else if c = 4 ∨ c = 7 then (2, 1) else (0, 0)
def pkF (c lv : Int) : Int := if lv % 2 = 1 then (moreF c).2 else (moreF c).1
def levF (lv c : Int) : Int := IntKind.u8.wrap (lv + pkF c lv)
def levX (xs : List Int) (lv : Int) : List Int := xs.map (levF lv)
theorem levX_len (xs : List Int) (lv : Int) : (levX xs lv).length = xs.length := by simp [levX]
theorem levX_nth (xs : List Int) (lv : Int) (i : Nat) (h : i < xs.length) : nth (levX xs lv) i = levF lv (nth xs i) := by
  rw [nth_eq _ _ (by rw [levX_len]; exact h), nth_eq _ _ h]; simp [levX]

def pairV (p : Int × Int) : Value := .agg #[.int .u8 p.1, .int .u8 p.2]

theorem more_c (c : Int) (w : World) : Calls Try.prog 34 #[.int .u8 c] w fun e w' => e = .returned (pairV (moreF c)) ∧ Below w.heap.size w w' := by
  refine calls_exec (cf := cf) cfok (fn := Try.f34) Try.func34 rfl [.v (.int .u8 c)] [] (ρ := fun _ => undef) (· < w.heap.size) rfl rfl rfl (by simp [svOkL, svOk]) (memNil fun _ h => h) ?_
  refine And.intro (fun h => ?_) (fun h2 => ?_)
  · have h : c = 2 := by simpa using h
    subst h
    exact fun ρ S w' hi => ⟨rfl, hi.below⟩
  have h2 : ¬ c = 2 := by simpa using h2
  refine And.intro (fun h => ?_) (fun h1 => ?_)
  · have h : c = 1 := by simpa using h
    subst h
    exact fun ρ S w' hi => ⟨rfl, hi.below⟩
  have h1 : ¬ c = 1 := by simpa using h1
  refine And.intro (fun h4 => ?_) (fun h4 => ?_)
  · have h4' : c = 4 := by simpa using h4
    refine And.intro (fun h => ?_) (fun h => Bool.noConfusion (h.symm.trans h4))
    subst h4'
    exact fun ρ S w' hi => ⟨rfl, hi.below⟩
  have h4 : ¬ c = 4 := by simpa using h4
  refine And.intro (fun h => ?_) (fun h7 => ?_)
  · have h : c = 7 := by simpa using h
    subst h
    exact fun ρ S w' hi => ⟨rfl, hi.below⟩
  have h7 : ¬ c = 7 := by simpa using h7
  refine fun ρ S w' hi => ⟨?_, hi.below⟩
  have : moreF c = (0, 0) := by simp [moreF, h2, h1, h4, h7]
  rw [this]; rfl

theorem rowsRaw1 {st : St} {t : Nat} (y : Int) : rowsAs st (.raw t 1 1 [.v (.int .u8 y)]) Int inferInstance 1 cE [y] := And.intro rfl (And.intro rfl (fun y hy => rfl))
theorem ownEq5 {a b : List Int} (h : a = b) : Chunk.own 5 Int inferInstance 1 cE a = Chunk.own 5 Int inferInstance 1 cE b := by rw [h]

theorem lev_c (xs : List Int) (lv : Int) (v : Value) (w : World) (hl : xs.length ≤ 1000000) (hlv : 0 ≤ lv ∧ lv ≤ 255) (hv : Rd w v 1 cE xs) :
    Calls Try.prog 20 #[v, .int .u8 lv] w fun e w' => ∃ u, e = .returned u ∧ Below w.heap.size w w' ∧ Fresh w w' u 5 1 cE (levX xs lv) := by
  refine calls_exec (cf := cf) cfok (fn := Try.f20) Try.func20 rfl [.sl 0, .v (.int .u8 lv)] [.rd Int inferInstance 1 cE xs] (ρ := fun _ => v) (· < w.heap.size) rfl rfl rfl (by simp [svOkL, svOk]) (memRd (fun _ h => h) ⟨hv, trivial⟩) ?_
  have hlen := levX_len xs lv
  refine ⟨{ i : Nat // i ≤ xs.length }, fun i => ⟨26, [⟨1, [], .v (.int .u8 lv)⟩, ⟨5, [], .sl 1⟩, ⟨8, [], .sl 0⟩, ⟨9, [], .v (.int .i64 xs.length)⟩, ⟨10, [], .v (.int .i64 i.1)⟩], [.rd Int inferInstance 1 cE xs, .own 5 Int inferInstance 1 cE ((levX xs lv).take i.1)], [], dropL nats 2⟩,
    fun i => xs.length - i.1, ⟨[0, 1000], ⟨0, by omega⟩, ?_⟩, fun i => ?_⟩
  · exact And.intro (And.intro rfl (And.intro rfl (And.intro rfl (And.intro rfl (And.intro rfl trivial))))) (And.intro rfl (And.intro rfl trivial))
  obtain ⟨i, hi⟩ := i
  refine And.intro (fun hlt => ?_) (fun hge => ?_)
  · have hlt : i < xs.length := by simpa using hlt
    have htk := take_succ_nth (levX xs lv) i (by omega)
    rw [levX_nth _ _ _ hlt] at htk
    have hz := and1 lv hlv.1 hlv.2
    refine And.intro ⟨by (first | omega | (dsimp only at *; omega)), by (first | omega | (dsimp only at *; omega))⟩ ?_
    refine Or.inl ⟨_, fun ρ S w' hm => more_c _ _, ?_⟩
    refine ⟨.int .u8 (pkF (nth xs i) lv), pure_indexA ttok rfl rfl rfl rfl rfl (l := [.int .u8 (moreF (nth xs i)).1, .int .u8 (moreF (nth xs i)).2]) (fun _ => rfl) rfl (by rw [hz]; omega) (by rw [hz]; omega) (by
      rw [hz]
      unfold pkF
      split
      · rename_i e; rw [e]; rfl
      · rename_i e; rw [show lv % 2 = 0 from by omega]; rfl), ?_⟩
    refine ⟨[levF lv (nth xs i)], rowsRaw1 _, by show (((levX xs lv).take i).length + 1) * 1 ≤ _; simp; omega, ?_⟩
    exact ⟨[0, 3], ⟨i + 1, hlt⟩, And.intro (And.intro rfl (And.intro rfl (And.intro rfl (And.intro rfl (And.intro (sv_i64 (i64_succ i (by omega))) trivial))))) (And.intro rfl (And.intro (ownEq5 htk.symm) trivial)), by show _ - (i + 1) < _ - i; omega⟩
  · have hge : i = xs.length := by have : ¬ i < xs.length := by simpa using hge
                                   (first | omega | (dsimp only at *; omega))
    have : (levX xs lv).take i = levX xs lv := by rw [hge, ← hlen, List.take_length]
    refine fun ρ S w' hi => ⟨_, rfl, hi.below, ?_⟩
    have hf : Fresh w w' (ρ 1) 5 1 cE ((levX xs lv).take i) := hi.fresh 1 cE_flat rfl rfl
    rw [this] at hf
    exact hf

theorem u8_id (n : Int) (h1 : 0 ≤ n) (h2 : n ≤ 255) : IntKind.u8.wrap n = n := by
  have key : ∀ m : Fin 256, IntKind.u8.wrap (m.val : Int) = (m.val : Int) := by decide +kernel
  have := key ⟨n.toNat, by omega⟩
  simpa [Int.toNat_of_nonneg h1] using this

theorem refLev_c (xs : List Int) (lv : Int) (v : Value) (w : World) (hl : xs.length ≤ 1000000) (hlv : 0 ≤ lv ∧ lv ≤ 255) (hv : Rd w v 1 cE xs) :
    Calls Try.prog 21 #[v, .int .u8 lv] w fun e w' => ∃ u, e = .returned u ∧ Below w.heap.size w w' ∧ Fresh w w' u 5 1 cE (levX xs lv) := by
  refine calls_exec (cf := cf) cfok (fn := Try.f21) Try.func21 rfl [.sl 0, .v (.int .u8 lv)] [.rd Int inferInstance 1 cE xs] (ρ := fun _ => v) (· < w.heap.size) rfl rfl rfl (by simp [svOkL, svOk]) (memRd (fun _ h => h) ⟨hv, trivial⟩) ?_
  have hlen := levX_len xs lv
  refine ⟨{ i : Nat // i ≤ xs.length }, fun i => ⟨68, [⟨0, [], .sl 0⟩, ⟨1, [], .v (.int .u8 lv)⟩, ⟨5, [], .sl 1⟩, ⟨6, [], .v (.int .i64 i.1)⟩], [.rd Int inferInstance 1 cE xs, .own 5 Int inferInstance 1 cE ((levX xs lv).take i.1)], [], dropL nats 2⟩,
    fun i => xs.length - i.1, ⟨[0, 1000], ⟨0, by omega⟩, ?_⟩, fun i => ?_⟩
  · exact And.intro (And.intro rfl (And.intro rfl (And.intro rfl (And.intro rfl trivial)))) (And.intro rfl (And.intro rfl trivial))
  obtain ⟨i, hi⟩ := i
  refine And.intro (fun hlt => ?_) (fun hge => ?_)
  · have hlt : i < xs.length := by simpa using hlt
    have htk := take_succ_nth (levX xs lv) i (by omega)
    rw [levX_nth _ _ _ hlt] at htk
    have h2 : lv.tmod 2 = lv % 2 := Int.tmod_eq_emod_of_nonneg hlv.1
    have fin : ∀ z : Int, z = levF lv (nth xs i) → (levX xs lv).take i ++ [z] = (levX xs lv).take (i + 1) := fun z hz => by rw [htk, hz]
    have hbd : (((levX xs lv).take i).length + 1) * 1 ≤ 140737488355328 := by simp; omega
    refine And.intro ⟨by (first | omega | (dsimp only at *; omega)), by (first | omega | (dsimp only at *; omega))⟩ ?_
    refine And.intro (fun _ => ⟨by (first | omega | (dsimp only at *; omega)), by (first | omega | (dsimp only at *; omega))⟩) ?_
    refine And.intro (by show (2 : Int) ≠ 0; omega) ?_
    refine And.intro (fun _ => ⟨by (first | omega | (dsimp only at *; omega)), by (first | omega | (dsimp only at *; omega))⟩) ?_
    refine And.intro (fun hc => ?_) (fun hc => ?_)
    · refine And.intro (fun _ => ?_) (fun h => Bool.noConfusion (h.symm.trans hc))
      refine ⟨_, rowsRaw1 _, hbd, ?_⟩
      refine ⟨[0, 3], ⟨i + 1, hlt⟩, And.intro (And.intro rfl (And.intro rfl (And.intro rfl (And.intro (sv_i64 (i64_succ i (by omega))) trivial)))) (And.intro rfl (And.intro (ownEq5 (fin _ ?_)) trivial)), by show _ - (i + 1) < _ - i; omega⟩
      have hc : lv.tmod 2 = 0 ∧ nth xs i = 2 := by simpa using hc
      rw [h2] at hc
      simp [levF, pkF, moreF, hc.1, hc.2]
    · have hc : ¬ (lv.tmod 2 = 0 ∧ nth xs i = 2) := by simpa using hc
      rw [h2] at hc
      refine And.intro (by show (2 : Int) ≠ 0; omega) ?_
      refine And.intro (fun _ => ⟨by (first | omega | (dsimp only at *; omega)), by (first | omega | (dsimp only at *; omega))⟩) ?_
      refine And.intro (fun hd => ?_) (fun hd => ?_)
      · refine ⟨_, rowsRaw1 _, hbd, ?_⟩
        refine ⟨[0, 3], ⟨i + 1, hlt⟩, And.intro (And.intro rfl (And.intro rfl (And.intro rfl (And.intro (sv_i64 (i64_succ i (by omega))) trivial)))) (And.intro rfl (And.intro (ownEq5 (fin _ ?_)) trivial)), by show _ - (i + 1) < _ - i; omega⟩
        have hd : lv.tmod 2 = 1 ∧ (nth xs i = 1 ∨ nth xs i = 4 ∨ nth xs i = 7) := by simpa using hd
        rw [h2] at hd
        rcases hd with ⟨g, h | h | h⟩ <;> simp [levF, pkF, moreF, g, h]
      · have hd : ¬ (lv.tmod 2 = 1 ∧ (nth xs i = 1 ∨ nth xs i = 4 ∨ nth xs i = 7)) := by simpa using hd
        rw [h2] at hd
        refine And.intro (by show (2 : Int) ≠ 0; omega) ?_
        refine And.intro (fun he => ?_) (fun he => ?_)
        · refine ⟨_, rowsRaw1 _, hbd, ?_⟩
          refine ⟨[0, 3], ⟨i + 1, hlt⟩, And.intro (And.intro rfl (And.intro rfl (And.intro rfl (And.intro (sv_i64 (i64_succ i (by omega))) trivial)))) (And.intro rfl (And.intro (ownEq5 (fin _ ?_)) trivial)), by show _ - (i + 1) < _ - i; omega⟩
          have he : lv.tmod 2 = 0 ∧ (nth xs i = 4 ∨ nth xs i = 7) := by simpa using he
          rw [h2] at he
          rcases he with ⟨g, h | h⟩ <;> simp [levF, pkF, moreF, g, h]
        · have he : ¬ (lv.tmod 2 = 0 ∧ (nth xs i = 4 ∨ nth xs i = 7)) := by simpa using he
          rw [h2] at he
          refine ⟨_, rowsRaw1 _, hbd, ?_⟩
          refine ⟨[0, 3], ⟨i + 1, hlt⟩, And.intro (And.intro rfl (And.intro rfl (And.intro rfl (And.intro (sv_i64 (i64_succ i (by omega))) trivial)))) (And.intro rfl (And.intro (ownEq5 (fin _ ?_)) trivial)), by show _ - (i + 1) < _ - i; omega⟩
          have h01 : lv % 2 = 0 ∨ lv % 2 = 1 := by omega
          have : pkF (nth xs i) lv = 0 := by
            unfold pkF moreF
            by_cases e2 : nth xs i = 2
            · have : lv % 2 = 1 := h01.resolve_left fun g => hc ⟨g, e2⟩
              simp [this, e2]
            · by_cases e1 : nth xs i = 1
              · have : ¬ lv % 2 = 1 := fun g => hd ⟨g, .inl e1⟩
                simp [this, e1]
              · have e3 : ¬ (nth xs i = 4 ∨ nth xs i = 7) := fun g => by
                  rcases h01 with h | h
                  · exact he ⟨h, g⟩
                  · exact hd ⟨h, .inr g⟩
                simp [e2, e1, e3]
          rw [levF, this, Int.add_zero, u8_id lv hlv.1 hlv.2]
  · have hge : i = xs.length := by have : ¬ i < xs.length := by simpa using hge
                                   (first | omega | (dsimp only at *; omega))
    have : (levX xs lv).take i = levX xs lv := by rw [hge, ← hlen, List.take_length]
    refine fun ρ S w' hi => ⟨_, rfl, hi.below, ?_⟩
    have hf : Fresh w w' (ρ 1) 5 1 cE ((levX xs lv).take i) := hi.fresh 1 cE_flat rfl rfl
    rw [this] at hf
    exact hf
end Go.Proofs.Ytcpaaekghajalaa
