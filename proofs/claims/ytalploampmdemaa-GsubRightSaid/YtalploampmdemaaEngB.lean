/- The engine, second third: it is sound for every program whose type table fits (CfgOk). Own text of this prover. -/
import Derived.Test.YtalploampmdemaaEngA
import Derived.Lib.AppendStr
import Derived.OrdersIn
universe u
/-! part Snd8 -/
namespace Go.Eng
open Go.RowKit
open Classical

theorem ChRel.refl (ch : List Chunk) : ChRel ch ch := ⟨Nat.le_refl _, fun _ _ n h => ⟨n, h, Nat.le_refl _, rfl⟩⟩
theorem ChRel.ofExt {ch ch' : List Chunk} (h : ChExt ch ch') : ChRel ch ch' := ⟨h.1, fun id hi n hn => ⟨n, by rw [← h.2 id hi]; exact hn, Nat.le_refl _, by rw [h.2 id hi]⟩⟩
theorem ChRel.trans {a b c : List Chunk} (h : ChRel a b) (k : ChRel b c) : ChRel a c :=
  ⟨Nat.le_trans h.1 k.1, fun id hi n hn => by
    obtain ⟨n1, h1, h2, h3⟩ := k.2 id (Nat.lt_of_lt_of_le hi h.1) n hn
    obtain ⟨n0, h4, h5, h6⟩ := h.2 id hi n1 h1
    exact ⟨n0, h4, Nat.le_trans h5 h2, h3.trans h6⟩⟩

mutual
theorem svOk_rel {ch ch' : List Chunk} (h : ChRel ch ch') : ∀ s, svOk ch s → svOk ch' s
  | .v _, _ => by simp [svOk]
  | .bx id off, hs => by simp only [svOk] at hs ⊢; exact Nat.lt_of_lt_of_le hs h.1
  | .el id sz i off, hs => by
    simp only [svOk] at hs ⊢
    refine ⟨Nat.lt_of_lt_of_le hs.1 h.1, fun n hn => ?_⟩
    obtain ⟨n0, h1, h2, h3⟩ := h.2 id hs.1 n hn
    obtain ⟨h4, h5⟩ := hs.2 n0 h1
    exact ⟨Nat.lt_of_lt_of_le h4 h2, h3.trans h5⟩
  | .sl id, hs => by simp only [svOk] at hs ⊢; exact Nat.lt_of_lt_of_le hs h.1
  | .agg l, hs => by simp only [svOk] at hs ⊢; exact svOkL_rel h l hs
  | .tup l, hs => by simp only [svOk] at hs ⊢; exact svOkL_rel h l hs
  | .fn f l, hs => by simp only [svOk] at hs ⊢; exact svOkL_rel h l hs
  | .mv f l1 l2, hs => by simp only [svOk] at hs ⊢; exact ⟨svOkL_rel h l1 hs.1, svOkL_rel h l2 hs.2⟩
  | .junk, _ => by simp [svOk]
theorem svOkL_rel {ch ch' : List Chunk} (h : ChRel ch ch') : ∀ l, svOkL ch l → svOkL ch' l
  | [], _ => by simp [svOkL]
  | s :: r, hs => by simp only [svOkL] at hs ⊢; exact ⟨svOk_rel h s hs.1, svOkL_rel h r hs.2⟩
end

section
variable {ops : Array Oper} {st st' : St} {ρ ρ' : Nat → Value} {S S' : Nat → Prop} {w w' : World} {a : Act}

theorem EnvOk.rel (he : EnvOk ops st ρ a) (hn : st'.n = st.n) (henv : st'.env = st.env) (hbs : st'.bs = st.bs) (hrel : ChRel st.ch st'.ch) (hold : ∀ id, id < st.ch.length → ρ' id = ρ id) : EnvOk ops st' ρ' a where
  size := by rw [he.size, hn]
  ent d e h hj := by
    rw [henv] at h
    rw [hbs, he.ent d e h hj]
    by_cases hc : holds st.bs e.cond
    · rw [if_pos hc, if_pos hc, den_congr hold e.sv (he.ok d e h hc)]
    · rw [if_neg hc, if_neg hc]
  ok d e h hc := by
    rw [henv] at h
    rw [hbs] at hc
    exact svOk_rel hrel _ (he.ok d e h hc)
  cl d e h := by rw [henv] at h; rw [hbs]; exact he.cl d e h
  bent e h := by rw [hbs] at h ⊢; exact he.bent e h
  bcl e h := by rw [hbs] at h ⊢; exact he.bcl e h

theorem Adv.refl (hm : MemOk st ρ S w) : Adv st st ρ ρ S S w w := ⟨rfl, rfl, rfl, ChRel.refl _, fun _ _ => rfl, hm, fun _ h => h, fun _ _ _ => rfl, fun i b hi h => .inr ⟨i, hi, h⟩, fun _ h => .inl h, fun _ _ _ _ h => h, Nat.le_refl _, rfl, rfl, rfl⟩
theorem Adv.keep {st st' : St} {ρ ρ' : Nat → Value} {S S' : Nat → Prop} {w w' : World} (h : Adv st st' ρ ρ' S S' w w') (hm : MemOk st ρ S w) : ∀ b, S b → w'.heap[b]? = w.heap[b]? :=
  fun b hb => h.frame b (hm.lt b hb) (fun i hi e => hm.out i b hi e hb)
/-- nothing of one's own has come, and all that was there is kept -/
theorem Adv.quiet (hn : st'.n = st.n) (henv : st'.env = st.env) (hbs : st'.bs = st.bs) (hx : ChExt st.ch st'.ch) (ho : ∀ id, id < st.ch.length → ρ' id = ρ id) (hm : MemOk st' ρ' S w')
    (hown : ∀ i, st.ch.length ≤ i → i < st'.ch.length → (∀ b, ownBlk (chGet st'.ch i) (ρ' i) ≠ some b) ∧ noY (chGet st'.ch i) = true) (hb : CC w w') : Adv st st' ρ ρ' S S w w' :=
  ⟨hn, henv, hbs, ChRel.ofExt hx, ho, hm, fun _ h => h, fun b hlt _ => Below.block hb b hlt, fun i b hi h => by
    by_cases hlt : i < st.ch.length
    · rw [hx.2 i hlt, ho i hlt] at h; exact .inr ⟨i, hlt, h⟩
    · exact absurd h ((hown i (by omega) hi).1 b), fun _ h => .inl h, fun id l go n h => (by
    by_cases hlt : id < st.ch.length
    · rw [← hx.2 id hlt]; exact h
    · by_cases hl' : id < st'.ch.length
      · have := (hown id (by omega) hl').2; rw [h] at this; cases this
      · rw [chGet_out _ _ (by omega)] at h; cases h), hb.size, hb.os, hb.tape, hb.output⟩
theorem Adv.trans {s1 s2 s3 : St} {r1 r2 r3 : Nat → Value} {S1 S2 S3 : Nat → Prop} {w1 w2 w3 : World} (h : Adv s1 s2 r1 r2 S1 S2 w1 w2) (k : Adv s2 s3 r2 r3 S2 S3 w2 w3) : Adv s1 s3 r1 r3 S1 S3 w1 w3 :=
  ⟨k.n.trans h.n, k.env.trans h.env, k.bs.trans h.bs, h.rel.trans k.rel, fun id hi => (k.old id (Nat.lt_of_lt_of_le hi h.rel.1)).trans (h.old id hi), k.mem, fun b hb => k.sub b (h.sub b hb),
   fun b hb hno => (k.frame b (Nat.lt_of_lt_of_le hb h.size) (fun i hi e => by
     rcases h.ownf i b hi e with h1 | ⟨j, hj, h2⟩
     · omega
     · exact hno j hj h2)).trans (h.frame b hb hno),
   fun i b hi e => by
     rcases k.ownf i b hi e with h1 | ⟨j, hj, h2⟩
     · have := h.size; exact .inl (by omega)
     · exact h.ownf j b hj h2,
   fun b hb => by
     rcases k.grow b hb with h1 | h1 | ⟨j, hj, h2⟩
     · exact h.grow b h1
     · have := h.size; exact .inr (.inl (by omega))
     · rcases h.ownf j b hj h2 with h3 | h3
       · exact .inr (.inl h3)
       · exact .inr (.inr h3), fun id l go n e => h.yks id l go n (k.yks id l go n e), Nat.le_trans h.size k.size, k.os.trans h.os, k.tape.trans h.tape, k.output.trans h.output⟩
theorem Adv.ofStep (h : Step st st' ρ ρ' S w) : Adv st st' ρ ρ' S S w w := Adv.quiet h.n h.env h.bs h.chx h.old h.mem h.own (Below.refl _ _)

theorem setCh_length : ∀ (ch : List Chunk) (i : Nat) (c : Chunk), (setCh ch i c).length = ch.length
  | [], _, _ => rfl
  | _ :: r, 0, c => rfl
  | a :: r, n + 1, c => by simp [setCh, setCh_length r n c]
theorem chGet_setCh : ∀ (ch : List Chunk) (i : Nat) (c : Chunk) (j : Nat), i < ch.length → chGet (setCh ch i c) j = if j = i then c else chGet ch j
  | [], i, c, j, h => by simp at h
  | a :: r, 0, c, 0, _ => rfl
  | a :: r, 0, c, j + 1, _ => by simp [setCh, chGet]
  | a :: r, i + 1, c, 0, _ => by simp [setCh, chGet]
  | a :: r, i + 1, c, j + 1, h => by simp only [setCh, chGet]; rw [chGet_setCh r i c j (by simpa using h)]; simp

theorem yks_snoc {ch : List Chunk} {c : Chunk} (hny : noY c = true) : ∀ id l go n, chGet (snocL ch c) id = .yk l go n → chGet ch id = .yk l go n := by
  intro id l go n h
  by_cases hlt : id < ch.length
  · rw [← chGet_snoc_old _ c _ hlt]; exact h
  · by_cases e : id = ch.length
    · subst e; rw [chGet_snoc_new] at h; rw [h] at hny; cases hny
    · rw [chGet_out _ _ (by rw [snocL_length]; omega)] at h; cases h
theorem yks_set {ch : List Chunk} {c : Chunk} {i : Nat} (hi : i < ch.length) (hny : noY c = true) : ∀ id l go n, chGet (setCh ch i c) id = .yk l go n → chGet ch id = .yk l go n := by
  intro id l go n h
  rw [chGet_setCh _ _ _ _ hi] at h
  split at h
  · rw [h] at hny; cases hny
  · exact h

/-- one chunk is written -/
theorem MemOk.change {id : Nat} {c : Chunk} (hm : MemOk st ρ S w) (hid : id < st.ch.length) (hch : st'.ch = setCh st.ch id c) (hbs : st'.bs = st.bs)
    (hS : ∀ b, S b → w'.heap[b]? = w.heap[b]?) (hoth : ∀ i b, i < st.ch.length → i ≠ id → ownBlk (chGet st.ch i) (ρ i) = some b → w'.heap[b]? = w.heap[b]?)
    (hc : ChunkOk st.bs S w' ρ c (ρ id)) (hcl : svOkL st.ch (cellsIn c)) (hrel : ChRel st.ch (setCh st.ch id c))
    (hb : ∀ b, ownBlk c (ρ id) = some b → ownBlk (chGet st.ch id) (ρ id) = some b) (hccl : condsOf c = []) (hsize : w.heap.size ≤ w'.heap.size) : MemOk st' ρ S w' where
  ok i hi := by
    rw [hch, setCh_length] at hi
    rw [hch, hbs, chGet_setCh _ _ _ _ hid]
    split
    · rename_i e; subst e; exact hc
    · rename_i e; exact ChunkOk.mono (fun _ h => h) hS (fun b hb => hoth i b hi e hb) (hm.ok i hi)
  cells i := by
    rw [hch, chGet_setCh _ _ _ _ hid]
    split
    · exact svOkL_rel hrel _ hcl
    · exact svOkL_rel hrel _ (hm.cells i)
  sep i j b hi hj hij h1 := by
    rw [hch, setCh_length] at hi hj
    rw [hch, chGet_setCh _ _ _ _ hid] at h1 ⊢
    intro h2
    have h1' : ownBlk (chGet st.ch i) (ρ i) = some b := by
      split at h1
      · rename_i e; subst e; exact hb b h1
      · exact h1
    have h2' : ownBlk (chGet st.ch j) (ρ j) = some b := by
      split at h2
      · rename_i e; subst e; exact hb b h2
      · exact h2
    exact hm.sep i j b hi hj hij h1' h2'
  out i b hi h1 := by
    rw [hch, setCh_length] at hi
    rw [hch, chGet_setCh _ _ _ _ hid] at h1
    split at h1
    · rename_i e; subst e; exact hm.out _ b hi (hb b h1)
    · exact hm.out i b hi h1
  lt b h := Nat.lt_of_lt_of_le (hm.lt b h) hsize
  ccl i := by
    rw [hch, chGet_setCh _ _ _ _ hid, hbs]
    split
    · rw [hccl]; intro p hp; simp at hp
    · exact hm.ccl i

/-- a new block of one's own -/
theorem newOwn_sound {K : St → Nat → Prop} {c : Chunk} {v : Value} (hm : MemOk st ρ S w) (hb : Below w.heap.size w w')
    (hc : ∀ ρ', (∀ id, id < st.ch.length → ρ' id = ρ id) → ChunkOk st.bs S w' ρ' c v) (hcl : svOkL st.ch (cellsIn c)) (hown : ∀ b, ownBlk c v = some b → w.heap.size ≤ b) (hncnd : condsOf c = [])
    (h : newCh st c K) (hny : noY c = true := by rfl) : ∃ st', K st' st.ch.length ∧ Adv st st' ρ (upd ρ st.ch.length v) S S w w' ∧ st.ch.length < st'.ch.length ∧ st'.ch = snocL st.ch c := by
  obtain ⟨n, env, ch, bs, ids⟩ := st
  simp only [newCh, snocK_eq] at h
  cases ids with
  | nil => exact h.elim
  | cons i is =>
    simp only at h
    cases hbq : Nat.beq i ch.length with
    | false => simp [hbq] at h
    | true =>
      simp only [hbq] at h
      have hi := Nat.eq_of_beq_eq_true hbq
      subst hi
      refine ⟨_, h, ⟨rfl, rfl, rfl, ChRel.ofExt (ChExt.snoc _ _), fun id hid => upd_ne _ _ (Nat.ne_of_lt hid), ?_, fun _ h => h, fun b hlt _ => hb.block b hlt, fun i b hi e => ?_, fun _ h => .inl h, yks_snoc hny, hb.size, hb.os, hb.tape, hb.output⟩, by simp [snocL_length], rfl⟩
      rotate_left
      · simp only [snocL_length] at hi
        by_cases hlt : i < ch.length
        · simp only [chGet_snoc_old _ _ _ hlt, upd_ne _ _ (Nat.ne_of_lt hlt)] at e; exact .inr ⟨i, hlt, e⟩
        · have e' : i = ch.length := by omega
          subst e'
          simp only [chGet_snoc_new, upd_same] at e
          exact .inl (hown b e)
      refine MemOk.addCh (hm.below hb) rfl rfl (hc _ (fun id hid => upd_ne _ _ (Nat.ne_of_lt hid))) (svOkL_ext (ChExt.snoc _ _) _ hcl) (by rw [hncnd]; intro p hp; simp at hp) (fun b e => ?_)
      have hge := hown b e
      refine ⟨fun hS => ?_, fun i hi hi' => ?_⟩
      · have := hm.lt b hS; omega
      · have := ownBlk_lt (hm.ok i hi) hi'; omega
end
end Go.Eng

/-! part Snd9 -/
namespace Go.Eng
open Go.RowKit
open Classical

def LOk (P : Program) (st : St) (o : Oper) (K : St → SV → Prop) (Kp : List PanicEntry → St → Prop) (ρ : Nat → Value) (S : Nat → Prop) (w : World) (a : Act) : Prop :=
  ∀ (next : Act → World → Prop) (Q : Exit → Act → World → Prop), (∀ st' s ρ' S' w', K st' s → Adv st st' ρ ρ' S S' w w' → svOk st'.ch s → next (a.put o.dst (den ρ' s)) w') →
    (∀ ch st' ρ' S' w', Kp ch st' → Adv st st' ρ ρ' S S' w w' → Q (.panic ch) a w') → o.wp P a w next Q

section
variable {P : Program} {tt : TT} {ops : Array Oper} {st : St} {o : Oper} {K : St → SV → Prop} {Kp : List PanicEntry → St → Prop} {ρ : Nat → Value} {S : Nat → Prop} {w : World} {a : Act}

theorem LOk.value {st' : St} {s : SV} {ρ' : Nat → Value} {S' : Nat → Prop} {w' : World} (hK : K st' s) (hadv : Adv st st' ρ ρ' S S' w w') (hs : svOk st'.ch s) (hr : (execOp a.eval o).run P w = .ok (.value (den ρ' s)) w') : LOk P st o K Kp ρ S w a := by
  intro next Q h _
  unfold Oper.wp
  rw [hr]
  exact h _ _ _ _ _ hK hadv hs

theorem LOk.skip {st' : St} {ρ' : Nat → Value} {S' : Nat → Prop} {w' : World} (hK : K st' (.v undef)) (hadv : Adv st st' ρ ρ' S S' w w') (hr : (execOp a.eval o).run P w = .ok .skip w') : LOk P st o K Kp ρ S w a := by
  intro next Q h _
  unfold Oper.wp
  rw [hr]
  exact h _ (.v undef) _ _ _ hK hadv (by simp [svOk])

theorem LOk.ofQuiet (hbs : holds st.bs []) (hq : QOk P st [] o K ρ S w a) : LOk P st o K Kp ρ S w a := by
  obtain ⟨st', s, ρ', hK, hr⟩ := hq
  obtain ⟨hs, hrun⟩ := hr.run hbs
  intro next Q h _
  have h0 : CC w w := Below.refl _ _
  refine Oper.wp_of_quiet (C := CC w) h0 (K := fun a' => a' = a.put o.dst (den ρ' s)) (fun a' w' hw' e => ?_) ⟨den ρ' s, hrun, rfl⟩
  subst e
  exact h st' s ρ' S w' hK (Adv.quiet hr.n hr.env hr.bs hr.chx hr.old (hr.mem.below hw') hr.own hw') hs

theorem below_alloc (w : World) (ob : Obj) : Below w.heap.size w (w.alloc ob) := (Below.refl _ _).alloc (Nat.le_refl _) _

theorem zero_run {t : TypeId} (htt : TTok P tt) (hk : knownD (ttGet tt t).d = true) (w : World) : ∃ z : Value, (zeroValue t).run P w = .ok z w ∧ z.cells.toList = (ttGet tt t).zero := by
  have hno : (ttGet tt t).d ≠ .other := by intro e; rw [e] at hk; simp [knownD] at hk
  obtain ⟨i, z, hi, _, _, hz, hzc⟩ := tyOk_info' (htt t) hno
  exact ⟨z, by simp [zeroValue, typeInfo, hi, hz], hzc⟩

/-- the same, and all that was there is kept -/
def LOkB (P : Program) (st : St) (o : Oper) (K : St → SV → Prop) (ρ : Nat → Value) (S : Nat → Prop) (w : World) (a : Act) : Prop :=
  ∀ (next : Act → World → Prop) (Q : Exit → Act → World → Prop), (∀ st' s ρ' S' w', K st' s → Adv st st' ρ ρ' S S' w w' → svOk st'.ch s → CC w w' → next (a.put o.dst (den ρ' s)) w') → o.wp P a w next Q
theorem LOkB.ok (h : LOkB P st o K ρ S w a) : LOk P st o K Kp ρ S w a := fun next Q hn _ => h next Q fun st' s ρ' S' w' h1 h2 h3 _ => hn st' s ρ' S' w' h1 h2 h3
theorem LOkB.value {st' : St} {s : SV} {ρ' : Nat → Value} {S' : Nat → Prop} {w' : World} (hK : K st' s) (hadv : Adv st st' ρ ρ' S S' w w') (hs : svOk st'.ch s) (hcc : CC w w') (hr : (execOp a.eval o).run P w = .ok (.value (den ρ' s)) w') : LOkB P st o K ρ S w a := by
  intro next Q h
  unfold Oper.wp
  rw [hr]
  exact h st' s ρ' S' w' hK hadv hs hcc

theorem allCell_sound' {st : St} {l : List Value} (h : allCell st [] (l.map .v) = true) : ∀ v ∈ l, v.oneCell' = true := by
  induction l with
  | nil => intro v hv; simp at hv
  | cons x r ih =>
    simp only [List.map_cons, allCell] at h
    split at h
    · rename_i hx
      intro v hv
      rcases List.mem_cons.1 hv with rfl | hv
      · cases v <;> first | rfl | (simp [cellOk] at hx)
      · exact ih h v hv
    · cases h

theorem l_alloc {t : TypeId} (htt : TTok P tt) (ho : o.op = .alloc t) (hm : MemOk st ρ S w)
    (h : match knownD (ttGet tt t).d with
    | true => (match (ttGet tt t).d with
      | .arr n e => newCh st (.bx t ((ttGet tt t).zero.map .v)) (fun st' id => K st' (.bx id 0)) ∨
          ∃ (α : Type) (inh : Inhabited α) (enc : α → List DV) (xs : List α), (ttGet tt t).zero.map .v = xs.flatMap enc ∧ (∀ y ∈ xs, (enc y).length = (ttGet tt e).size) ∧ xs.length = n ∧ Nat.ble (n * (ttGet tt e).size) 16777216 = true ∧ Nat.ble n 16777216 = true ∧ allCell st [] ((ttGet tt t).zero.map .v) = true ∧
            newCh st (.own t α inh (ttGet tt e).size enc xs) (fun st' id => K st' (.bx id 0))
      | _ => newCh st (.bx t ((ttGet tt t).zero.map .v)) (fun st' id => K st' (.bx id 0)))
    | false => False) : LOkB P st o K ρ S w a := by
  split at h
  · rename_i hk
    obtain ⟨z, hz, hzc⟩ := zero_run htt hk w
    have hcells : z.cells = (ttGet tt t).zero.toArray := by rw [← hzc]
    have box : newCh st (.bx t ((ttGet tt t).zero.map .v)) (fun st' id => K st' (.bx id 0)) → LOkB P st o K ρ S w a := by
      intro h
      obtain ⟨st', hK, hadv, hlt, _⟩ := newOwn_sound (c := .bx t ((ttGet tt t).zero.map .v)) (w' := w.alloc (.cells z.cells t)) (v := .pointer (some ⟨w.heap.size, 0, none⟩)) hm (below_alloc w _)
        (fun ρ' _ => ⟨w.heap.size, rfl, by rw [heap_alloc_new, denL_v, hcells]⟩) (by simpa [cellsIn] using svOkL_v _) (fun b e => by simp [ownBlk] at e; omega) (by first | rfl | simp) h
      refine LOkB.value hK hadv (by simpa [svOk] using hlt) (below_alloc w _) ?_
      simp [execOp, ho, Instr.alloc, hz, newVar, newRow, den, upd_same]
    split at h
    · rename_i n e hd
      rcases h with h | ⟨α, inh, enc, xs, hfl, hlen, hn, hb1, hb2, hac, h⟩
      · exact box h
      · have hzl : (ttGet tt t).zero.length = xs.length * (ttGet tt e).size := by
          have := flatMap_len enc (ttGet tt e).size xs hlen
          rw [← hfl, List.length_map] at this
          exact this
        have hb2 := Nat.le_of_ble_eq_true hb2
        obtain ⟨st', hK, hadv, hlt, _⟩ := newOwn_sound (c := .own t α inh (ttGet tt e).size enc xs) (w' := w.alloc (.cells z.cells t)) (v := .slice (some ⟨w.heap.size, 0, none⟩) xs.length xs.length) hm (below_alloc w _)
          (fun ρ' _ => by
            refine ⟨(ttGet tt t).zero, ⟨hzl, .inr ⟨w.heap.size, xs.length, z.cells, rfl, Nat.zero_le _, heap_alloc_new w _, Nat.le_refl _, by simp only [maxLen]; omega, by rw [hcells]; simpa using hzl, by rw [hcells, ← hzl]; exact List.take_of_length_le (by simp)⟩⟩, fun i j d hi hd' => ?_⟩
            have hj : j < (ttGet tt e).size := by
              have := hlen (nth xs i) (by rw [nth_eq xs i hi]; exact List.getElem_mem _)
              have h6 := (List.getElem?_eq_some_iff.1 hd').1
              omega
            have := flatMap_get enc (ttGet tt e).size xs hlen i j hi hj
            rw [← hfl, hd', List.getElem?_map] at this
            cases hx : (ttGet tt t).zero[i * (ttGet tt e).size + j]? with
            | none => simp [hx] at this
            | some x =>
              simp only [hx, Option.map_some, Option.some.injEq] at this
              subst this
              exact ⟨x, rfl, hj, .v x (allCell_sound' hac x (List.mem_of_getElem? hx))⟩)
          (by simp [cellsIn, svOkL]) (fun b e => by simp [ownBlk, Value.ownBlock] at e; omega) (by first | rfl | simp) h
        refine LOkB.value hK hadv (by simpa [svOk] using hlt) (below_alloc w _) ?_
        simp [execOp, ho, Instr.alloc, hz, newVar, newRow, den, upd_same]
    · exact box h
  · exact h.elim

theorem l_box {t : TypeId} {x : Operand} (ho : o.op = .box t x) (hm : MemOk st ρ S w) (he : EnvOk ops st ρ a)
    (h : match getV st [] x with
    | some s => (match flatOk st [] s with
      | true => newCh st (.bx t (cellsOf s)) (fun st' id => K st' (.bx id 0))
      | false => False)
    | none => False) : LOkB P st o K ρ S w a := by
  split at h
  · rename_i s hx
    split at h
    · rename_i hf
      obtain ⟨h1, h2⟩ := getV_sound he (L := []) trivial hx
      obtain ⟨h3, h4⟩ := flat_sound (L := []) hm trivial h2 hf
      obtain ⟨st', hK, hadv, hlt, _⟩ := newOwn_sound (c := .bx t (cellsOf s)) (w' := w.alloc (.cells (den ρ s).cells t)) (v := .pointer (some ⟨w.heap.size, 0, none⟩)) hm (below_alloc w _)
        (fun ρ' hρ => ⟨w.heap.size, rfl, by rw [heap_alloc_new, denL_congr hρ _ h4, ← h3]⟩) (by simpa [cellsIn] using h4) (fun b e => by simp [ownBlk] at e; omega) (by first | rfl | simp) h
      refine LOkB.value hK hadv (by simpa [svOk] using hlt) (below_alloc w _) ?_
      simp [execOp, ho, h1, Instr.box, newVar, newRow, den, upd_same]
    · exact h.elim
  · exact h.elim

theorem withCh_sound {id : Nat} {c : Chunk} {K : St → Prop} (h : withCh st id c K) : ∃ st', K st' ∧ st'.ch = setCh st.ch id c ∧ st'.bs = st.bs ∧ st'.env = st.env ∧ st'.n = st.n := by
  obtain ⟨n, env, ch, bs, ids⟩ := st
  simp only [withCh, setK_eq] at h
  exact ⟨_, h, rfl, rfl, rfl, rfl⟩

theorem allCell_sound {s : List SV} (hm : MemOk st ρ S w) (hs : svOkL st.ch s) (h : allCell st [] s = true) : ∀ v ∈ denL ρ s, v.oneCell' = true := by
  induction s with
  | nil => intro v hv; simp [denL] at hv
  | cons x r ih =>
    simp only [allCell] at h
    split at h
    · rename_i hx
      intro v hv
      simp only [denL, List.mem_cons] at hv
      rcases hv with rfl | hv
      · exact cell_sound (L := []) hm trivial hs.1 hx
      · exact ih hs.2 h v hv
    · cases h

/-- a store into a row of cells -/
theorem store_run {t : TypeId} {g off : Nat} {v : Value} {cur : Array Value} {e : TypeId} {fr : List Value} (hty : tyOk P t (ttGet tt t)) (hk : knownD (ttGet tt t).d = true) (hg : w.heap[g]? = some (.cells cur e (0, 0)))
    (hv : v.cells.toList = fr) (hlen : fr.length = (ttGet tt t).size) (hfit : off + fr.length ≤ cur.size) (h1 : ∀ x ∈ fr, x.oneCell' = true) :
    (storeVar t ⟨g, off, none⟩ v).run P w = .ok () (w.setRow g (cur.toList.take off ++ fr ++ cur.toList.drop (off + fr.length)).toArray) := by
  have hno : (ttGet tt t).d ≠ .other := by intro e; rw [e] at hk; simp [knownD] at hk
  have hsz := sizeOf_run hty hno w
  have hst := run_storeCells_at P g off e fr 0 cur w hg (by simpa using hfit) h1
  have : v.cells.size = (ttGet tt t).size := by rw [← Array.length_toList, hv, hlen]
  simp only [Nat.add_zero] at hst
  simp [storeVar, hsz, this, hv, hst]

theorem l_store_bx {t t' : TypeId} {p x : Operand} {id off : Nat} {s : SV} {cells : List SV} (htt : TTok P tt) (ho : o.op = .store t p x) (hm : MemOk st ρ S w) (he : EnvOk ops st ρ a)
    (hp : getV st [] p = some (.bx id off)) (hx : getV st [] x = some s) (hk : knownD (ttGet tt t).d = true) (hc : chGet st.ch id = .bx t' cells)
    (hf : flatOk st [] s = true) (hac : allCell st [] (cellsOf s) = true) (hlen : (cellsOf s).length = (ttGet tt t).size) (hfit : off + (cellsOf s).length ≤ cells.length)
    (h : withCh st id (.bx t' (spliceL cells off (cellsOf s))) (fun st' => K st' (.v undef))) : LOk P st o K Kp ρ S w a := by
  obtain ⟨hp1, hp2⟩ := getV_sound he (L := []) trivial hp
  obtain ⟨hx1, hx2⟩ := getV_sound he (L := []) trivial hx
  obtain ⟨hv1, hv2⟩ := flat_sound (L := []) hm trivial hx2 hf
  simp only [svOk] at hp2
  obtain ⟨b, hb, hg⟩ := (hc ▸ hm.ok id hp2 : ChunkOk _ _ _ _ (.bx t' cells) _)
  have hcells : svOkL st.ch cells := by have := hm.cells id; rw [hc] at this; exact this
  obtain ⟨st', hK, hch, hbs, henv, hn⟩ := withCh_sound h
  have hsp := spliceL_eq cells off (cellsOf s) (by omega)
  have hrun := store_run (w := w) (off := off) (htt t) hk hg hv1 (by simpa [denL_eq] using hlen) (by simpa [denL_eq] using hfit) (allCell_sound hm hv2 hac)
  have hrow : ((denL ρ cells).toArray.toList.take off ++ denL ρ (cellsOf s) ++ (denL ρ cells).toArray.toList.drop (off + (denL ρ (cellsOf s)).length)).toArray = (denL ρ (spliceL cells off (cellsOf s))).toArray := by
    rw [hsp]; simp [denL_eq, List.map_append, List.map_take, List.map_drop]
  rw [hrow] at hrun
  have hrel : ChRel st.ch (setCh st.ch id (.bx t' (spliceL cells off (cellsOf s)))) := ⟨by rw [setCh_length]; exact Nat.le_refl _, fun i hi n hn => by
    rw [chGet_setCh _ _ _ _ hp2] at hn ⊢
    split at hn
    · simp [lenOf] at hn
    · rename_i e; rw [if_neg e]; exact ⟨n, hn, Nat.le_refl _, rfl⟩⟩
  have hnS : ∀ b', S b' → b' ≠ b := fun b' hS e => hm.out id b hp2 (by rw [hc, hb]; rfl) (e ▸ hS)
  refine LOk.skip (ρ' := ρ) (S' := S) (w' := w.setRow b (denL ρ (spliceL cells off (cellsOf s))).toArray) hK ⟨hn, henv, hbs, by rw [hch]; exact hrel, fun _ _ => rfl, ?_, fun _ h => h, fun b' hlt hno => setRow_other _ _ _ _ (fun e => hno id hp2 (by rw [hc, hb, e]; rfl)), fun i b' hi h2 => ?_, fun _ h => .inl h, by rw [hch]; exact yks_set hp2 rfl, by simp, rfl, rfl, rfl⟩ ?_
  rotate_left
  · rw [hch, setCh_length] at hi
    rw [hch, chGet_setCh _ _ _ _ hp2] at h2
    split at h2
    · rename_i e; subst e; exact .inr ⟨_, hp2, by rw [hc]; rw [hb] at h2 ⊢; exact h2⟩
    · exact .inr ⟨i, hi, h2⟩
  rotate_left
  · refine hm.change hp2 hch hbs (fun b' hS => setRow_other _ _ _ _ (hnS b' hS)) (fun i b' hi hne h2 => setRow_other _ _ _ _ (fun e => ?_)) ⟨b, hb, setRow_heap w b _ _ _ _ hg⟩ ?_ hrel ?_ rfl (by simp)
    · exact hm.sep i id b' hi hp2 hne h2 (by rw [hc, hb, e]; rfl)
    · simp only [cellsIn, hsp]
      exact svOkL_append _ _ (svOkL_append _ _ (svOkL_take _ _ hcells) hv2) (svOkL_drop _ _ hcells)
    · intro b' h2; rw [hc]; rw [hb] at h2 ⊢; exact h2
  · simp only [den, hb, Nat.zero_add] at hp1
    simp [execOp, ho, hp1, hx1, Instr.storeAt, Instr.sureAddr, hrun]

theorem repL_eq {α : Type u} : ∀ (n : Nat) (l : List α), repL n l = (List.replicate n l).flatten
  | 0, l => rfl
  | n + 1, l => by simp [repL, repL_eq n l, List.replicate_succ]

theorem replicate_mod {α : Type} [Inhabited α] (z : List α) (hz : z ≠ []) : ∀ n, (List.replicate n z).flatten = (List.range (n * z.length)).map fun i => (z[i % z.length]?).getD default := by
  intro n
  apply List.ext_getElem?
  intro j
  have hpos : 0 < z.length := List.length_pos_iff.2 hz
  induction n generalizing j with
  | zero => simp
  | succ n ih =>
    rw [List.replicate_succ, List.flatten_cons]
    by_cases hj : j < z.length
    · rw [List.getElem?_append_left hj, List.getElem?_map, List.getElem?_range (by rw [Nat.succ_mul]; omega)]
      simp [Nat.mod_eq_of_lt hj, hj]
    · rw [List.getElem?_append_right (by omega), ih (j - z.length)]
      rw [List.getElem?_map, List.getElem?_map]
      have hs : (n + 1) * z.length = n * z.length + z.length := Nat.succ_mul n z.length
      by_cases h2 : j < (n + 1) * z.length
      · rw [List.getElem?_range h2, List.getElem?_range (by omega)]
        simp only [Option.map_some]
        rw [← Nat.mod_eq_sub_mod (by omega)]
      · rw [List.getElem?_eq_none (by simp only [List.length_range]; omega), List.getElem?_eq_none (by simp only [List.length_range]; omega)]

theorem madeCells_list (z : Array Value) (hz : z.toList ≠ []) (n : Nat) : ((Array.range (n * z.size)).map (z[· % z.size]!)) = ((List.replicate n z.toList).flatten).toArray := by
  rw [replicate_mod z.toList hz]
  apply Array.toList_inj.1
  simp only [Array.toList_map, Array.toList_range, Array.length_toList]
  apply List.map_congr_left
  intro i _
  rw [getElem!_def]
  simp only [Array.getElem?_toList]
  cases z[i % z.size]? <;> rfl

theorem denL_rep (ρ : Nat → Value) (l : List Value) : ∀ n, denL ρ (repL n (l.map .v)) = (List.replicate n l).flatten
  | 0 => rfl
  | n + 1 => by
    have h1 := denL_v ρ l
    have h2 := denL_rep ρ l n
    rw [denL_eq] at h1 h2
    simp only [repL, denL_eq, List.map_append, List.replicate_succ, List.flatten_cons, h1, h2]
theorem svOkL_rep {ch : List Chunk} (l : List Value) : ∀ n, svOkL ch (repL n (l.map SV.v))
  | 0 => trivial
  | n + 1 => svOkL_append _ _ (svOkL_v _) (svOkL_rep l n)

theorem l_buildSlice {t n : Nat} {parts : Array (Nat × Operand)} (htt : TTok P tt) (ho : o.op = .buildSlice t n parts) (hm : MemOk st ρ S w) (he : EnvOk ops st ρ a)
    (h : match (ttGet tt t).d with
    | .sl e => (match knownD (ttGet tt e).d, fillS (fun i => some (i * (ttGet tt e).size, (ttGet tt e).size)) st [] (repL n ((ttGet tt e).zero.map .v)) parts.toList, Nat.ble (n * (ttGet tt e).size) 16777216, Nat.beq (ttGet tt e).zero.length (ttGet tt e).size with
      | true, some cells, true, true => newCh st (.raw e n (ttGet tt e).size cells) (fun st' id => K st' (.sl id))
      | _, _, _, _ => False)
    | _ => False) : LOkB P st o K ρ S w a := by
  split at h
  · rename_i e hd
    split at h
    · rename_i cells hk hf hle hzl
      have hle := Nat.le_of_ble_eq_true hle
      have hzl := Nat.eq_of_beq_eq_true hzl
      have hno : (ttGet tt e).d ≠ .other := by intro e; rw [e] at hk; simp [knownD] at hk
      have hdesc := tyOk_desc (htt t) (by rw [hd]; simp)
      rw [hd] at hdesc
      have hu : P.underlying t = some (.slice e) := hdesc
      have hsz := sizeOf_run (P := P) (htt e) hno
      obtain ⟨z, hz, hzc⟩ := zero_run htt hk w
      have hcells : z.cells = (ttGet tt e).zero.toArray := by rw [← hzc]
      obtain ⟨h5, h6⟩ := fill_sound (w := w) (L := []) hm trivial he _ (fun i => some (i * (ttGet tt e).size, (ttGet tt e).size)) (fun i r hr => hr) parts.toList _ cells (svOkL_rep _ _) hf
      rw [denL_rep] at h5
      obtain ⟨st', hK, hadv, hlt, _⟩ := newOwn_sound (c := .raw e n (ttGet tt e).size cells) (w' := w.alloc (.cells (denL ρ cells).toArray e)) (v := .slice (some ⟨w.heap.size, 0, none⟩) n n) hm (below_alloc w _)
        (fun ρ' hρ => ⟨w.heap.size, rfl, by rw [heap_alloc_new, denL_congr hρ _ h6]⟩) (by simpa [cellsIn] using h6) (fun b e => by simp [ownBlk, Value.ownBlock] at e; omega) (by first | rfl | simp) h
      refine LOkB.value hK hadv (by simpa [svOk] using hlt) (below_alloc w _) ?_
      have hfill : Instr.fill (fun i => some (i * (ttGet tt e).size, (ttGet tt e).size)) ((Array.range (n * (ttGet tt e).size)).map ((if n * (ttGet tt e).size = 0 then #[] else z.cells)[· % (if n * (ttGet tt e).size = 0 then #[] else z.cells).size]!)) (parts.toList.map fun p => (p.1, a.eval p.2)) = some (denL ρ cells).toArray := by
        rw [← h5]
        congr 1
        by_cases h0 : n * (ttGet tt e).size = 0
        · rw [h0]
          have : (List.replicate n (ttGet tt e).zero).flatten = [] := by
            rcases Nat.mul_eq_zero.1 h0 with h1 | h1
            · subst h1; rfl
            · have : (ttGet tt e).zero = [] := List.eq_nil_of_length_eq_zero (by omega)
              rw [this]; simp
          rw [this]; simp
        · have hzs : z.cells.size = (ttGet tt e).size := by rw [← Array.length_toList, hzc, hzl]
          have hne : z.cells.toList ≠ [] := by
            intro hnil
            have : (ttGet tt e).size = 0 := by rw [← hzs, ← Array.length_toList, hnil]; rfl
            rw [this] at h0; simp at h0
          rw [if_neg h0, ← hzs, madeCells_list _ hne, hzc]
      simp only [execOp, ho, Instr.buildSlice]
      simp only [Sem.run_bind, run_underlying hu, Result.andThen_ok, hsz, if_neg (show ¬ n * (ttGet tt e).size > 2 ^ 24 by omega)]
      by_cases h0 : n * (ttGet tt e).size = 0
      · simp only [if_pos h0] at hfill ⊢
        simp only [Sem.run_bind, Sem.run_pure, Result.andThen_ok, Array.toList_map, hfill]
        simp [newRow, den, upd_same]
      · simp only [if_neg h0] at hfill ⊢
        simp only [Sem.run_bind, Sem.run_pure, Result.andThen_ok, hz, Array.toList_map, hfill]
        simp [newRow, den, upd_same]
    · exact h.elim
  · exact h.elim
end
end Go.Eng

/-! part Snd10 -/
namespace Go.Eng
open Go.RowKit
open Classical

theorem DRep.one {S : Nat → Prop} {w : World} {d : DV} {v : Value} (h : DRep S w d v) : v.oneCell' = true := by
  cases h with
  | v x h => exact h
  | sl => rfl
  | ptr => rfl

section
variable {P : Program} {tt : TT} {ops : Array Oper} {st : St} {o : Oper} {K : St → SV → Prop} {ρ : Nat → Value} {S : Nat → Prop} {w : World} {a : Act}

theorem toDV_sound {s : SV} {d : DV} (hm : MemOk st ρ S w) (hs : svOk st.ch s) (h : toDV st s = some d) : DRep S w d (den ρ s) := by
  cases s with
  | v x => cases x <;> simp [toDV] at h <;> subst h <;> exact .v _ rfl
  | sl id =>
    simp only [toDV] at h
    split at h
    · rename_i α inh sz enc xs hc
      simp only [Option.some.injEq] at h
      subst h
      simp only [svOk] at hs
      have := hm.ok id hs
      rw [hc] at this
      exact this
    · cases h
  | bx id off =>
    cases off with
    | succ n => simp [toDV] at h
    | zero =>
      simp only [toDV] at h
      split at h
      · rename_i cells hc
        simp only [Option.some.injEq] at h
        subst h
        simp only [svOk] at hs
        have := hm.ok id hs
        rw [hc] at this
        have := this trivial
        generalize hv : ρ id = v at this
        cases this with
        | ptr b o cell hb hcell hrep => simp only [den, hv, Nat.add_zero]; exact .ptr b o cell hb hcell hrep
      · cases h
  | _ => simp [toDV] at h

theorem toDVs_sound (hm : MemOk st ρ S w) : ∀ (s : List SV) (ds : List DV), svOkL st.ch s → toDVs st s = some ds → ds.length = s.length ∧ ∀ (j : Nat) d, ds[j]? = some d → ∃ x, (denL ρ s)[j]? = some x ∧ DRep S w d x
  | [], ds, _, h => by simp only [toDVs, Option.some.injEq] at h; subst h; exact ⟨rfl, fun j d hd => by simp at hd⟩
  | s :: r, ds, hs, h => by
    simp only [toDVs] at h
    split at h
    · rename_i d l hd hl
      simp only [Option.some.injEq] at h
      subst h
      obtain ⟨h1, h2⟩ := toDVs_sound hm r l hs.2 hl
      refine ⟨by simp [h1], fun j d' hd' => ?_⟩
      cases j with
      | zero => simp at hd'; subst hd'; exact ⟨_, rfl, toDV_sound hm hs.1 hd⟩
      | succ j => simpa [denL] using h2 j d' (by simpa using hd')
    · cases h

/-- the cells that an append brings -/
structure News (S : Nat → Prop) (w : World) (v : Value) (α : Type) (inh : Inhabited α) (sz : Nat) (enc : α → List DV) (ys : List α) (ad : Option Addr) (c : Nat) (news : List Value) : Prop where
  val : v = .slice ad ys.length c
  len : news.length = ys.length * sz
  nonnil : ys ≠ [] → ∃ a, ad = some a
  cells : ∀ a, ad = Option.some a → ∀ (j : Nat) u, news[j]? = Option.some u → w.cell? (a.add j) = Option.some u
  one : ∀ u ∈ news, u.oneCell' = true
  rep : ∀ (i j : Nat) d, i < ys.length → (enc (nth ys i))[j]? = Option.some d → ∃ x, news[i * sz + j]? = Option.some x ∧ j < sz ∧ DRep S w d x

theorem rows_sound {ix : Nat} {α : Type} {inh : Inhabited α} {sz : Nat} {enc : α → List DV} {ys : List α} (hsz : 0 < sz) (hm : MemOk st ρ S w) (hix : ix < st.ch.length) (h : rowsAs st (chGet st.ch ix) α inh sz enc ys) :
    ∃ ad c news, News S w (ρ ix) α inh sz enc ys ad c news := by
  have hok := hm.ok ix hix
  have hce := hm.cells ix
  revert h hok hce
  cases chGet st.ch ix with
  | bx => intro h; exact h.elim
  | yk => intro h; exact h.elim
  | dead => intro h; exact h.elim
  | glb => intro h; exact h.elim
  | ob => intro h; exact h.elim
  | rp => intro h; exact h.elim
  | cnd => intro h; exact h.elim
  | raw t n sz' cells =>
    intro h hok hce
    simp only [rowsAs] at h
    split at h
    · rename_i ds hds hbq
      obtain ⟨h1, h2, h3⟩ := h
      have hsz' := Nat.eq_of_beq_eq_true hbq
      obtain ⟨b, hv, hg⟩ := hok
      obtain ⟨h4, h5⟩ := toDVs_sound hm cells ds hce hds
      have hlen : (denL ρ cells).length = ys.length * sz := by
        rw [denL_eq, List.length_map, ← h4, h2, flatMap_len enc sz ys h3]
      have hrep : ∀ (i j : Nat) d, i < ys.length → (enc (nth ys i))[j]? = some d → ∃ x, (denL ρ cells)[i * sz + j]? = some x ∧ j < sz ∧ DRep S w d x := by
        intro i j d hi hd
        have hj : j < sz := by
          have := h3 (nth ys i) (by rw [nth_eq ys i hi]; exact List.getElem_mem _)
          have h6 := (List.getElem?_eq_some_iff.1 hd).1
          omega
        have := flatMap_get enc sz ys h3 i j hi hj
        rw [← h2, hd] at this
        obtain ⟨x, hx, hr⟩ := h5 _ d this
        exact ⟨x, hx, hj, hr⟩
      refine ⟨some ⟨b, 0, none⟩, n, denL ρ cells, by rw [hv, h1], hlen, fun _ => ⟨_, rfl⟩, ?_, ?_, hrep⟩
      · intro a ha j u hu
        simp only [Option.some.injEq] at ha
        subst ha
        rw [Addr.add_lit, Nat.zero_add, cell_of_row w b j _ t (0, 0) hg]
        simpa using hu
      · intro u hu
        obtain ⟨p, hp, rfl⟩ := List.getElem_of_mem hu
        have hp' : p < ds.length := by rw [h4]; simpa [denL_eq] using hp
        obtain ⟨x, hx, hr⟩ := h5 p ds[p] (by simp)
        have : (denL ρ cells)[p] = x := by
          have := List.getElem?_eq_getElem hp
          rw [this] at hx; simpa using hx
        rw [this]
        exact hr.one
    · exact h.elim
  | rd β inh' sz' enc' zs =>
    intro h hok _
    obtain ⟨e1, e2, h3⟩ := h
    subst e1
    generalize hv : ρ ix = v at hok
    cases hok with
    | sl ad c b o cell hc hne hcell hrep =>
      have key : ∀ p, p < zs.length * sz → ∃ d, (enc' (nth zs (p / sz)))[p % sz]? = some d ∧ p / sz < zs.length := by
        intro p hp
        have hi : p / sz < zs.length := by rw [Nat.div_lt_iff_lt_mul hsz]; exact hp
        have hl : (enc' (nth zs (p / sz))).length = sz := by rw [← (h3 _ hi).1]; exact (h3 _ hi).2
        have hj : p % sz < (enc' (nth zs (p / sz))).length := by rw [hl]; exact Nat.mod_lt _ hsz
        exact ⟨_, List.getElem?_eq_getElem hj, hi⟩
      refine ⟨ad, c, (List.range (zs.length * sz)).map fun p => cell (p / sz) (p % sz), by rw [e2], by simp [e2], fun hy => ?_, ?_, ?_, ?_⟩
      · exact ⟨_, (hne (by intro e; subst e; simp at e2; exact hy e2)).1⟩
      · intro a ha j u hu
        rw [List.getElem?_map] at hu
        by_cases hj : j < zs.length * sz
        · rw [List.getElem?_range hj] at hu
          simp only [Option.map_some, Option.some.injEq] at hu
          subst hu
          obtain ⟨d, hd, hi⟩ := key j hj
          have hz : zs ≠ [] := by intro e; subst e; simp at hi
          obtain ⟨rfl, _⟩ := hne hz
          simp only [Option.some.injEq] at ha
          subst ha
          rw [Addr.add_lit]
          have := hcell _ _ d hi hd
          rw [Nat.add_assoc, Nat.mul_comm, Nat.div_add_mod] at this
          exact this
        · rw [List.getElem?_eq_none (by simpa using hj)] at hu
          cases hu
      · intro u hu
        simp only [List.mem_map, List.mem_range] at hu
        obtain ⟨p, hp, rfl⟩ := hu
        obtain ⟨d, hd, hi⟩ := key p hp
        exact (hrep _ _ d hi hd).one
      · intro i j d hi hd
        have hi' : i < zs.length := by omega
        obtain ⟨h5, h6⟩ := h3 i hi'
        have hj : j < sz := by have := (List.getElem?_eq_some_iff.1 hd).1; omega
        have hp : i * sz + j < zs.length * sz := by
          calc i * sz + j < i * sz + sz := by omega
            _ = (i + 1) * sz := by rw [Nat.succ_mul]
            _ ≤ zs.length * sz := Nat.mul_le_mul_right _ hi'
        refine ⟨cell i j, ?_, hj, hrep i j d hi' (by rw [← h5]; exact hd)⟩
        rw [List.getElem?_map, List.getElem?_range hp]
        have e1 : (i * sz + j) / sz = i := by rw [Nat.mul_comm, Nat.mul_add_div hsz, Nat.div_eq_of_lt hj, Nat.add_zero]
        have e2 : (i * sz + j) % sz = j := by rw [Nat.mul_comm, Nat.mul_add_mod, Nat.mod_eq_of_lt hj]
        simp [e1, e2]
  | own t β inh' sz' enc' zs =>
    intro h hok _
    obtain ⟨e1, e2, h3⟩ := h
    subst e1
    obtain ⟨vals, ho, hv⟩ := hok
    have hrep : ∀ (i j : Nat) d, i < ys.length → (enc (nth ys i))[j]? = some d → ∃ x, vals[i * sz + j]? = some x ∧ j < sz ∧ DRep S w d x := by
      intro i j d hi hd
      rw [(h3 i (by omega)).1] at hd
      exact hv i j d (by omega) hd
    have hone : ∀ u ∈ vals, u.oneCell' = true := by
      intro u hu
      obtain ⟨p, hp, rfl⟩ := List.getElem_of_mem hu
      have hp' : p < zs.length * sz := by rw [← ho.1]; exact hp
      have hi : p / sz < zs.length := by rw [Nat.div_lt_iff_lt_mul hsz]; exact hp'
      have hl : (enc (nth ys (p / sz))).length = sz := (h3 _ hi).2
      have hj : p % sz < (enc (nth ys (p / sz))).length := by rw [hl]; exact Nat.mod_lt _ hsz
      obtain ⟨x, hx, _, hr⟩ := hrep (p / sz) (p % sz) _ (by omega) (List.getElem?_eq_getElem hj)
      rw [Nat.mul_comm, Nat.div_add_mod, List.getElem?_eq_getElem hp] at hx
      simp only [Option.some.injEq] at hx
      rw [hx]
      exact hr.one
    have ho' := ho
    obtain ⟨hl, h2⟩ := ho'
    rcases h2 with ⟨hval, h0⟩ | ⟨g, cap, cur, hval, _⟩
    · refine ⟨none, 0, vals, by rw [hval, e2, h0], by rw [hl, e2], fun hy => ?_, fun a ha => by simp at ha, hone, hrep⟩
      exact absurd (List.eq_nil_of_length_eq_zero (by omega)) hy
    · refine ⟨some ⟨g, 0, none⟩, cap, vals, by rw [hval, e2], by rw [hl, e2], fun _ => ⟨_, rfl⟩, ?_, hone, hrep⟩
      intro a ha j u hu
      simp only [Option.some.injEq] at ha
      subst ha
      exact ho.cells (g := g) (by rw [hval]; rfl) j u hu

/-- append to a slice of one's own -/
theorem append_run {t ty e : TypeId} {i : TypeInfo} {z : Value} {size bytes : Nat} (ht : P.underlying t = some (.slice e)) (hi : P.info? e = some i) (hz : i.zero = some z) (hsize : i.size = size) (hby : i.bytes = bytes) (hzs : z.cells.size = size) (hsz : 0 < size)
    {v : Value} {n : Nat} {xs : List Value} (hown : w.ownsRow 0 e size v n xs) {ad : Option Addr} {m c : Nat} {news : List Value} (hl : news.length = m * size) (hsome : m ≠ 0 → ∃ a, ad = some a)
    (hnews : ∀ a, ad = some a → ∀ (j : Nat) u, news[j]? = some u → w.cell? (a.add j) = some u) (h1 : ∀ u ∈ news, u.oneCell' = true) (h63 : n + m ≤ maxLen) (hbytes : (n + m) * bytes ≤ 140737488355328) :
    ∃ v' w', (Builtin.append_ #[t, t] ty #[v, .slice ad m c]).run P w = .ok v' w' ∧ w'.ownsRow 0 e size v' (n + m) (xs ++ news) ∧ w.grownBy w' v.ownBlock ∧ (∀ b, v'.ownBlock = some b → v.ownBlock = some b ∨ w.heap.size ≤ b) := by
  cases ad with
  | none =>
    have hm0 : m = 0 := by
      rcases Nat.eq_zero_or_pos m with h | h
      · exact h
      · obtain ⟨a, ha⟩ := hsome (by omega); cases ha
    subst hm0
    have hn : news = [] := List.eq_nil_of_length_eq_zero (by simpa using hl)
    subst hn
    refine ⟨v, w, ?_, by simpa using hown, ⟨rfl, rfl, rfl, Nat.le_refl _, fun _ _ _ => rfl⟩, fun b hb => .inl hb⟩
    rcases hown.2 with ⟨rfl, rfl⟩ | ⟨g, cap, cur, rfl, _, _, hnc, _⟩
    · simp [Builtin.append_, run_underlying ht, sizeOf, typeInfo, hi, Builtin.lenOf, Builtin.firstCells]
    · simp [Builtin.append_, run_underlying ht, sizeOf, typeInfo, hi, Builtin.lenOf, Builtin.firstCells, hnc, storeCells]
  | some a =>
    obtain ⟨v', w', hr, h2, h3, h4⟩ := run_append_own (P := P) w 0 t ty e i z size bytes ht hi hz hsize hby hzs hsz v n xs hown a m c news hl (hnews a rfl) h1 h63 hbytes (Nat.zero_le _)
    refine ⟨v', w', hr, h2, h3, fun b hb => ?_⟩
    subst hsize hby
    rcases hown.2 with ⟨rfl, rfl⟩ | ⟨g, cap, cur, rfl, _, hg, hnc, hcm, hcs, htake⟩
    · by_cases hm : m = 0
      · have := h4.2 ⟨rfl, hm⟩
        subst this
        simp [Value.ownBlock] at hb
      · right
        have hr' := run_append_nil (P := P) w t ty e i z ht hi hz a m c news hl (hnews a rfl) (by omega) (by simp only [maxLen] at h63; omega) (by have hb := hbytes; simp only [Nat.zero_add] at hb; omega)
        rw [hr'] at hr
        simp only [Result.ok.injEq] at hr
        rw [← hr.1] at hb
        simp [Value.ownBlock] at hb
        omega
    · by_cases hroom : n + m ≤ cap
      · left
        have hr' := run_append_room (P := P) w t ty e i ht hi g n cap cur hg a m c news hl (hnews a rfl) h1 hroom (by rw [hl, hcs, ← Nat.add_mul]; exact Nat.mul_le_mul_right _ hroom)
        rw [hr'] at hr
        simp only [Result.ok.injEq] at hr
        rw [← hr.1] at hb
        exact hb
      · right
        have hr' := run_append_grow (P := P) w t ty e i z ht hi hz ⟨g, 0, none⟩ n cap xs hown.1 (hown.cells (g := g) rfl) a m c news hl (hnews a rfl) (by omega) (by simp only [maxLen] at h63; omega) (growslice_fits (by omega) hbytes)
        rw [hr'] at hr
        simp only [Result.ok.injEq] at hr
        rw [← hr.1] at hb
        simp [Value.ownBlock] at hb
        omega
end
end Go.Eng

/-! part Snd11 -/
namespace Go.Eng
open Go.RowKit
open Classical

section
variable {P : Program} {tt : TT} {ops : Array Oper} {st : St} {o : Oper} {K : St → SV → Prop} {Kp : List PanicEntry → St → Prop} {ρ : Nat → Value} {S : Nat → Prop} {w : World} {a : Act}

theorem OwnOk.append {t : TypeId} {α : Type} {inh : Inhabited α} {sz : Nat} {enc : α → List DV} {xs ys : List α} {v' : Value} {vals news : List Value} {w' : World}
    (hl : vals.length = xs.length * sz) (ho : w'.ownsRow 0 t sz v' (xs.length + ys.length) (vals ++ news))
    (hx : ∀ (i j : Nat) d, i < xs.length → (enc (nth xs i))[j]? = some d → ∃ x, vals[i * sz + j]? = some x ∧ j < sz ∧ DRep S w d x)
    (hy : ∀ (i j : Nat) d, i < ys.length → (enc (nth ys i))[j]? = some d → ∃ x, news[i * sz + j]? = some x ∧ j < sz ∧ DRep S w d x)
    (hS : ∀ b, S b → w'.heap[b]? = w.heap[b]?) : OwnOk S w' t α inh sz enc (xs ++ ys) v' := by
  refine ⟨vals ++ news, by rw [List.length_append]; exact ho, fun i j d hi hd => ?_⟩
  rw [List.length_append] at hi
  by_cases h : i < xs.length
  · rw [nth_append_left _ _ _ h] at hd
    obtain ⟨x, h1, h2, h3⟩ := hx i j d h hd
    refine ⟨x, ?_, h2, DRep.mono (fun _ h => h) hS h3⟩
    rw [List.getElem?_append_left (List.getElem?_eq_some_iff.1 h1).1]
    exact h1
  · rw [nth_append_right _ _ _ (by omega)] at hd
    obtain ⟨x, h1, h2, h3⟩ := hy (i - xs.length) j d (by omega) hd
    refine ⟨x, ?_, h2, DRep.mono (fun _ h => h) hS h3⟩
    have hge : xs.length * sz ≤ i * sz := Nat.mul_le_mul_right _ (by omega)
    rw [List.getElem?_append_right (by rw [hl]; omega), hl, show i * sz + j - xs.length * sz = (i - xs.length) * sz + j from by rw [Nat.sub_mul]; omega]
    exact h1

theorem below_of_grown {w' : World} {row : Option Nat} (hg : w.grownBy w' row) (h : row = none) : Below w.heap.size w w' :=
  ⟨hg.os, hg.tape, hg.output, hg.size, fun k hk => hg.block k hk (by rw [h]; simp)⟩

/-- a new chunk of one's own, whatever was written besides -/
theorem newOwn_gen {st : St} {K : St → Nat → Prop} {c : Chunk} {v : Value} {w' : World} (hm : MemOk st ρ S w) (hS : ∀ b, S b → w'.heap[b]? = w.heap[b]?)
    (hoth : ∀ i b, i < st.ch.length → ownBlk (chGet st.ch i) (ρ i) = some b → w'.heap[b]? = w.heap[b]?) (hsize : w.heap.size ≤ w'.heap.size) (hos : w'.os = w.os) (htape : w'.tape = w.tape) (hout : w'.output = w.output)
    (hc : ∀ ρ', (∀ id, id < st.ch.length → ρ' id = ρ id) → ChunkOk st.bs S w' ρ' c v) (hcl : svOkL st.ch (cellsIn c)) (hown : ∀ b, ownBlk c v = some b → ¬ S b ∧ ∀ i, i < st.ch.length → ownBlk (chGet st.ch i) (ρ i) ≠ some b) (hncnd : condsOf c = [])
    {st0 : St} (ha : Adv st0 st ρ ρ S S w w) (hfr : ∀ b, b < w.heap.size → (∀ i, i < st0.ch.length → ownBlk (chGet st0.ch i) (ρ i) ≠ some b) → w'.heap[b]? = w.heap[b]?)
    (hown0 : ∀ b, ownBlk c v = some b → w.heap.size ≤ b ∨ ∃ j, j < st0.ch.length ∧ ownBlk (chGet st0.ch j) (ρ j) = some b)
    (h : newCh st c K) (hny : noY c = true := by rfl) : ∃ st', K st' st.ch.length ∧ Adv st0 st' ρ (upd ρ st.ch.length v) S S w w' ∧ st.ch.length < st'.ch.length ∧ st'.ch = snocL st.ch c := by
  have hm' : MemOk st ρ S w' := ⟨fun id hid => ChunkOk.mono (fun _ h => h) hS (fun b hb => hoth id b hid hb) (hm.ok id hid), hm.cells, hm.sep, hm.out, fun b hb => Nat.lt_of_lt_of_le (hm.lt b hb) hsize, hm.ccl⟩
  have hal := ha.rel.1
  have han := ha.n
  have hae := ha.env
  have hab := ha.bs
  have har := ha.rel
  have hao := ha.ownf
  have hay := ha.yks
  obtain ⟨n, env, ch, bs, ids⟩ := st
  simp only [newCh, snocK_eq] at h
  cases ids with
  | nil => exact h.elim
  | cons i is =>
    simp only at h
    cases hbq : Nat.beq i ch.length with
    | false => simp [hbq] at h
    | true =>
      simp only [hbq] at h
      have hi := Nat.eq_of_beq_eq_true hbq
      subst hi
      refine ⟨_, h, ⟨han, hae, hab, har.trans (ChRel.ofExt (ChExt.snoc _ _)), fun id hid => upd_ne _ _ (Nat.ne_of_lt (Nat.lt_of_lt_of_le hid hal)), ?_, fun _ h => h, hfr, fun i b hi e => ?_, fun _ h => .inl h, fun id l go n e => hay id l go n (yks_snoc hny id l go n e), hsize, hos, htape, hout⟩, by simp [snocL_length], rfl⟩
      rotate_left
      · simp only [snocL_length] at hi
        by_cases hlt : i < ch.length
        · simp only [chGet_snoc_old _ _ _ hlt, upd_ne _ _ (Nat.ne_of_lt hlt)] at e; exact hao i b hlt e
        · have e' : i = ch.length := by omega
          subst e'
          simp only [chGet_snoc_new, upd_same] at e
          exact hown0 b e
      exact MemOk.addCh hm' rfl rfl (hc _ (fun id hid => upd_ne _ _ (Nat.ne_of_lt hid))) (svOkL_ext (ChExt.snoc _ _) _ hcl) (by rw [hncnd]; intro p hp; simp at hp) hown

/-- a slice written out in the text, as one of one's own -/
theorem raw_own {is n sz : Nat} {t' : TypeId} {cells : List SV} {α : Type} {inh : Inhabited α} {enc : α → List DV} {xs : List α} (hm : MemOk st ρ S w) (his : is < st.ch.length) (hc : chGet st.ch is = .raw t' n sz cells) (hn : n ≤ 16777216)
    (h : rowsAs st (.raw t' n sz cells) α inh sz enc xs) : OwnOk S w t' α inh sz enc xs (ρ is) := by
  have hok := hm.ok is his
  have hce := hm.cells is
  rw [hc] at hok hce
  obtain ⟨b, hv, hg⟩ := hok
  simp only [rowsAs] at h
  split at h
  · rename_i ds hds _
    obtain ⟨h1, h2, h3⟩ := h
    obtain ⟨h4, h5⟩ := toDVs_sound hm cells ds hce hds
    have hlen : (denL ρ cells).length = xs.length * sz := by
      rw [denL_eq, List.length_map, ← h4, h2, flatMap_len enc sz xs h3]
    rw [hv, ← h1]
    refine ⟨denL ρ cells, ⟨hlen, .inr ⟨b, xs.length, _, rfl, Nat.zero_le _, hg, Nat.le_refl _, by simp only [maxLen]; omega, by simpa using hlen, by rw [← hlen]; exact List.take_of_length_le (by simp)⟩⟩, fun i j d hi hd => ?_⟩
    have hj : j < sz := by
      have := h3 (nth xs i) (by rw [nth_eq xs i hi]; exact List.getElem_mem _)
      have h6 := (List.getElem?_eq_some_iff.1 hd).1
      omega
    have := flatMap_get enc sz xs h3 i j hi hj
    rw [← h2, hd] at this
    obtain ⟨x, hx, hr⟩ := h5 _ d this
    exact ⟨x, hx, hj, hr⟩
  · exact h.elim

theorem toDVs_any {st : St} : ∀ {cells : List SV} {ds : List DV}, toDVs ⟨0, [], [], [], []⟩ cells = some ds → toDVs st cells = some ds
  | [], ds, h => h
  | c :: r, ds, h => by
    simp only [toDVs] at h ⊢
    cases hc : toDV ⟨0, [], [], [], []⟩ c with
    | none => simp [hc] at h
    | some d =>
      cases hr : toDVs ⟨0, [], [], [], []⟩ r with
      | none => simp [hc, hr] at h
      | some ds' =>
        simp only [hc, hr] at h
        have e1 : toDV st c = some d := by
          cases c with
          | v x => cases x <;> exact hc
          | sl id =>
            have : toDV ⟨0, [], [], [], []⟩ (.sl id) = none := by simp only [toDV]; rw [chGet_out _ _ (Nat.zero_le _)]
            rw [this] at hc; cases hc
          | bx id off =>
            cases off with
            | zero =>
              have : toDV ⟨0, [], [], [], []⟩ (.bx id 0) = none := by simp only [toDV]; rw [chGet_out _ _ (Nat.zero_le _)]
              rw [this] at hc; cases hc
            | succ => cases hc
          | _ => cases hc
        rw [e1, toDVs_any hr]
        exact h
theorem rowsAs_any {st : St} {t n sz sz' : Nat} {cells : List SV} {α : Type} {inh : Inhabited α} {enc : α → List DV} {xs : List α} (h : rowsAs ⟨0, [], [], [], []⟩ (.raw t n sz cells) α inh sz' enc xs) : rowsAs st (.raw t n sz cells) α inh sz' enc xs := by
  simp only [rowsAs] at h ⊢
  cases hd : toDVs ⟨0, [], [], [], []⟩ cells with
  | none => simp [hd] at h
  | some ds => rw [toDVs_any hd]; rw [hd] at h; exact h
theorem rawOwn_cases {c : Chunk} {t' : TypeId} {α : Type} {inh : Inhabited α} {sz' : Nat} {enc : α → List DV} {xs : List α} (h : rawOwn c t' α inh sz' enc xs) :
    c = .own t' α inh sz' enc xs ∨ ∃ n cells, c = .raw t' n sz' cells ∧ n ≤ 16777216 ∧ ∀ st, rowsAs st (.raw t' n sz' cells) α inh sz' enc xs := by
  unfold rawOwn at h
  split at h
  · rename_i t n sz cells
    obtain ⟨rfl, h2, h3⟩ := h
    have : sz' = sz := by
      have h4 := h3
      simp only [rowsAs] at h4
      split at h4
      · rename_i hb; exact Nat.eq_of_beq_eq_true hb
      · exact h4.elim
    subst this
    exact .inr ⟨n, cells, rfl, Nat.le_of_ble_eq_true h2, fun st => rowsAs_any h3⟩
  · exact .inl h
theorem rawOwn_own {c : Chunk} {t' : TypeId} {α : Type} {inh : Inhabited α} {sz' : Nat} {enc : α → List DV} {xs : List α} (h : rawOwn c t' α inh sz' enc xs) (v : Value) : ownBlk c v = ownBlk (.own t' α inh sz' enc xs) v := by
  rcases rawOwn_cases h with rfl | ⟨n, cells, rfl, _, _⟩ <;> rfl

theorem rawOwn_len {c : Chunk} {t' : TypeId} {α : Type} {inh : Inhabited α} {sz' : Nat} {enc : α → List DV} {xs : List α} (h : rawOwn c t' α inh sz' enc xs) : lenOf c = lenOf (.own t' α inh sz' enc xs) ∧ szOf c = szOf (.own t' α inh sz' enc xs) := by
  rcases rawOwn_cases h with rfl | ⟨n, cells, rfl, _, h3⟩
  · exact ⟨rfl, rfl⟩
  · have h4 := h3 ⟨0, [], [], [], []⟩
    simp only [rowsAs] at h4
    split at h4
    · exact ⟨by simp only [lenOf]; rw [h4.1], rfl⟩
    · exact h4.elim

/-- append to a slice of one's own -/
theorem append_core {e t : TypeId} {s x : Operand} {is ix : Nat} {α : Type} {inh : Inhabited α} {sz : Nat} {enc : α → List DV} {xs ys : List α} (htt : TTok P tt) (hm : MemOk st ρ S w)
    (hd : (ttGet tt t).d = .sl e) (hk : knownD (ttGet tt e).d = true) (hzl : (ttGet tt e).zero.length = (ttGet tt e).size) (hsz : 0 < (ttGet tt e).size) (hby : 0 < (ttGet tt e).bytes)
    (hexec : ∀ r w', (Builtin.append_ #[t, t] o.type #[ρ is, ρ ix]).run P w = .ok r w' → (execOp a.eval o).run P w = .ok (.value r) w')
    (hs2' : is < st.ch.length) (hx2 : ix < st.ch.length) (e2 : sz = (ttGet tt e).size) (hok : OwnOk S w e α inh sz enc xs (ρ is)) (hob : ∀ b, (ρ is).ownBlock = some b → ownBlk (chGet st.ch is) (ρ is) = some b)
    (hrows : rowsAs st (chGet st.ch ix) α inh sz enc ys) (hb : (xs.length + ys.length) * (ttGet tt e).bytes ≤ 140737488355328)
    (hK : killCh st is (fun st1 => newCh st1 (.own e α inh sz enc (xs ++ ys)) (fun st' id => K st' (.sl id)))) : LOk P st o K Kp ρ S w a := by
  have hno : (ttGet tt e).d ≠ .other := by intro e; rw [e] at hk; simp [knownD] at hk
  have hdesc := tyOk_desc (htt t) (by rw [hd]; simp)
  rw [hd] at hdesc
  have hu : P.underlying t = some (.slice e) := hdesc
  obtain ⟨inf, z, hi, hs1, hs2, hz, hzc⟩ := tyOk_info' (htt e) hno
  have hzs : z.cells.size = (ttGet tt e).size := by rw [← Array.length_toList, hzc, hzl]
  rw [e2] at hrows
  obtain ⟨ad, c, news, hn⟩ := rows_sound hsz hm hx2 hrows
  obtain ⟨vals, hown, hrep⟩ := hok
  rw [e2] at hown
  obtain ⟨v', w', hr, h2, h3, h4⟩ := append_run (ty := o.type) hu hi hz hs1 hs2 hzs hsz hown hn.len (fun h0 => hn.nonnil (by intro e; subst e; simp at h0)) hn.cells hn.one (by simp only [maxLen]; have := Nat.le_mul_of_pos_right (xs.length + ys.length) hby; omega) hb
  obtain ⟨st1, hK1, hch1, hbs1, henv1, hn1⟩ := withCh_sound hK
  have hrel1 : ChRel st.ch (setCh st.ch is .dead) := ⟨by rw [setCh_length]; exact Nat.le_refl _, fun i hi n hn => by
    rw [chGet_setCh _ _ _ _ hs2'] at hn ⊢
    split at hn
    · simp [lenOf] at hn
    · rename_i e; rw [if_neg e]; exact ⟨n, hn, Nat.le_refl _, rfl⟩⟩
  have hm1 : MemOk st1 ρ S w := hm.change hs2' hch1 hbs1 (fun _ _ => rfl) (fun _ _ _ _ _ => rfl) trivial (by simp [cellsIn, svOkL]) hrel1 (fun b h => by simp [ownBlk] at h) rfl (Nat.le_refl _)
  have hadv1 : Adv st st1 ρ ρ S S w w := ⟨hn1, henv1, hbs1, by rw [hch1]; exact hrel1, fun _ _ => rfl, hm1, fun _ h => h, fun _ _ _ => rfl, fun i b hi e => by
    rw [hch1, setCh_length] at hi
    rw [hch1, chGet_setCh _ _ _ _ hs2'] at e
    split at e
    · simp [ownBlk] at e
    · exact .inr ⟨i, hi, e⟩, fun _ h => .inl h, by rw [hch1]; exact yks_set hs2' rfl, Nat.le_refl _, rfl, rfl, rfl⟩
  have hoB : ∀ b, (ρ is).ownBlock = some b → ¬ S b ∧ ∀ i, i < st.ch.length → i ≠ is → ownBlk (chGet st.ch i) (ρ i) ≠ some b := by
    intro b hb'
    have := hob b hb'
    exact ⟨hm.out is b hs2' this, fun i hi hne => fun h => hm.sep i is b hi hs2' hne h this⟩
  have hSk : ∀ b, S b → w'.heap[b]? = w.heap[b]? := fun b hS => h3.block b (hm.lt b hS) (fun e => (hoB b e.symm).1 hS)
  obtain ⟨st', hK', hadv, hlt, _⟩ := newOwn_gen (c := .own e α inh sz enc (xs ++ ys)) (w' := w') (v := v') (st0 := st) hm1 hSk
    (fun i b hi hb' => by
      rw [hch1, setCh_length] at hi
      rw [hch1, chGet_setCh _ _ _ _ hs2'] at hb'
      split at hb'
      · simp [ownBlk] at hb'
      · rename_i hne'
        refine h3.block b (ownBlk_lt (hm.ok i hi) hb') (fun e => (hoB b e.symm).2 i hi hne' hb'))
    h3.size h3.os h3.tape h3.output
    (fun ρ' _ => by
      rw [← e2] at h2 hn
      exact OwnOk.append (S := S) (w := w) (by rw [hown.1, e2]) h2 hrep hn.rep hSk)
    (by simp [cellsIn, svOkL])
    (fun b hb' => by
      rcases h4 b (by simpa [ownBlk] using hb') with h5 | h5
      · refine ⟨(hoB b h5).1, fun i hi => ?_⟩
        rw [hch1, setCh_length] at hi
        rw [hch1, chGet_setCh _ _ _ _ hs2']
        split
        · simp [ownBlk]
        · rename_i hne'; exact (hoB b h5).2 i hi hne'
      · refine ⟨fun hS => by have := hm.lt b hS; omega, fun i hi h6 => ?_⟩
        have := ownBlk_lt (hm1.ok i hi) h6
        omega)
    (by first | rfl | simp) hadv1 (fun b hlt hno => h3.block b hlt (fun e => hno is hs2' (hob b e.symm)))
    (fun b hb' => by
      rcases h4 b (by simpa [ownBlk] using hb') with h5 | h5
      · exact .inr ⟨is, hs2', hob b h5⟩
      · exact .inl h5) hK1
  refine LOk.value hK' hadv (by simpa [svOk] using hlt) ?_
  simp only [den, upd_same]
  exact hexec _ _ (by rw [hn.val]; exact hr)

/-- append to a slice of one's own -/
theorem append_any {e : TypeId} {is : Nat} {α : Type} {inh : Inhabited α} {sz : Nat} {enc : α → List DV} {xs ys : List α} (hm : MemOk st ρ S w)
    (news : List Value) (hrun : ∀ vals, w.ownsRow 0 e sz (ρ is) xs.length vals → ∃ v' w', (execOp a.eval o).run P w = .ok (.value v') w' ∧ w'.ownsRow 0 e sz v' (xs.length + ys.length) (vals ++ news) ∧ w.grownBy w' (ρ is).ownBlock ∧ (∀ b, v'.ownBlock = some b → (ρ is).ownBlock = some b ∨ w.heap.size ≤ b))
    (hnrep : ∀ (i j : Nat) d, i < ys.length → (enc (nth ys i))[j]? = some d → ∃ x, news[i * sz + j]? = some x ∧ j < sz ∧ DRep S w d x)
    (hs2' : is < st.ch.length) (hok : OwnOk S w e α inh sz enc xs (ρ is)) (hob : ∀ b, (ρ is).ownBlock = some b → ownBlk (chGet st.ch is) (ρ is) = some b)
    (hK : killCh st is (fun st1 => newCh st1 (.own e α inh sz enc (xs ++ ys)) (fun st' id => K st' (.sl id)))) : LOk P st o K Kp ρ S w a := by
  obtain ⟨vals, hown, hrep⟩ := hok
  obtain ⟨v', w', hr, h2, h3, h4⟩ := hrun vals hown
  obtain ⟨st1, hK1, hch1, hbs1, henv1, hn1⟩ := withCh_sound hK
  have hrel1 : ChRel st.ch (setCh st.ch is .dead) := ⟨by rw [setCh_length]; exact Nat.le_refl _, fun i hi n hn => by
    rw [chGet_setCh _ _ _ _ hs2'] at hn ⊢
    split at hn
    · simp [lenOf] at hn
    · rename_i e; rw [if_neg e]; exact ⟨n, hn, Nat.le_refl _, rfl⟩⟩
  have hm1 : MemOk st1 ρ S w := hm.change hs2' hch1 hbs1 (fun _ _ => rfl) (fun _ _ _ _ _ => rfl) trivial (by simp [cellsIn, svOkL]) hrel1 (fun b h => by simp [ownBlk] at h) rfl (Nat.le_refl _)
  have hadv1 : Adv st st1 ρ ρ S S w w := ⟨hn1, henv1, hbs1, by rw [hch1]; exact hrel1, fun _ _ => rfl, hm1, fun _ h => h, fun _ _ _ => rfl, fun i b hi e => by
    rw [hch1, setCh_length] at hi
    rw [hch1, chGet_setCh _ _ _ _ hs2'] at e
    split at e
    · simp [ownBlk] at e
    · exact .inr ⟨i, hi, e⟩, fun _ h => .inl h, by rw [hch1]; exact yks_set hs2' rfl, Nat.le_refl _, rfl, rfl, rfl⟩
  have hoB : ∀ b, (ρ is).ownBlock = some b → ¬ S b ∧ ∀ i, i < st.ch.length → i ≠ is → ownBlk (chGet st.ch i) (ρ i) ≠ some b := by
    intro b hb'
    have := hob b hb'
    exact ⟨hm.out is b hs2' this, fun i hi hne => fun h => hm.sep i is b hi hs2' hne h this⟩
  have hSk : ∀ b, S b → w'.heap[b]? = w.heap[b]? := fun b hS => h3.block b (hm.lt b hS) (fun e => (hoB b e.symm).1 hS)
  obtain ⟨st', hK', hadv, hlt, _⟩ := newOwn_gen (c := .own e α inh sz enc (xs ++ ys)) (w' := w') (v := v') (st0 := st) hm1 hSk
    (fun i b hi hb' => by
      rw [hch1, setCh_length] at hi
      rw [hch1, chGet_setCh _ _ _ _ hs2'] at hb'
      split at hb'
      · simp [ownBlk] at hb'
      · rename_i hne'
        refine h3.block b (ownBlk_lt (hm.ok i hi) hb') (fun e => (hoB b e.symm).2 i hi hne' hb'))
    h3.size h3.os h3.tape h3.output
    (fun ρ' _ => by
      exact OwnOk.append (S := S) (w := w) hown.1 h2 hrep hnrep hSk)
    (by simp [cellsIn, svOkL])
    (fun b hb' => by
      rcases h4 b (by simpa [ownBlk] using hb') with h5 | h5
      · refine ⟨(hoB b h5).1, fun i hi => ?_⟩
        rw [hch1, setCh_length] at hi
        rw [hch1, chGet_setCh _ _ _ _ hs2']
        split
        · simp [ownBlk]
        · rename_i hne'; exact (hoB b h5).2 i hi hne'
      · refine ⟨fun hS => by have := hm.lt b hS; omega, fun i hi h6 => ?_⟩
        have := ownBlk_lt (hm1.ok i hi) h6
        omega)
    (by first | rfl | simp) hadv1 (fun b hlt hno => h3.block b hlt (fun e => hno is hs2' (hob b e.symm)))
    (fun b hb' => by
      rcases h4 b (by simpa [ownBlk] using hb') with h5 | h5
      · exact .inr ⟨is, hs2', hob b h5⟩
      · exact .inl h5) hK1
  refine LOk.value hK' hadv (by simpa [svOk] using hlt) ?_
  simp only [den, upd_same]
  exact hr

theorem l_append {e t : TypeId} {s x : Operand} {sv xv : SV} (htt : TTok P tt) (ho : o.op = .call ⟨.builtin .append, #[s, x], #[t, t]⟩) (hm : MemOk st ρ S w) (he : EnvOk ops st ρ a)
    (hd : (ttGet tt t).d = .sl e) (hs : getV st [] s = some sv) (hx : getV st [] x = some xv) (hk : knownD (ttGet tt e).d = true) (hzl : (ttGet tt e).zero.length = (ttGet tt e).size) (hsz : 0 < (ttGet tt e).size) (hby : 0 < (ttGet tt e).bytes)
    (h : appendK tt st e sv xv K) : LOk P st o K Kp ρ S w a := by
  have hno : (ttGet tt e).d ≠ .other := by intro e; rw [e] at hk; simp [knownD] at hk
  have hdesc := tyOk_desc (htt t) (by rw [hd]; simp)
  rw [hd] at hdesc
  have hu : P.underlying t = some (.slice e) := hdesc
  obtain ⟨inf, z, hi, hs1, hs2, hz, hzc⟩ := tyOk_info' (htt e) hno
  have hzs : z.cells.size = (ttGet tt e).size := by rw [← Array.length_toList, hzc, hzl]
  obtain ⟨hs1', hs2'⟩ := getV_sound he (L := []) trivial hs
  obtain ⟨hx1, hx2⟩ := getV_sound he (L := []) trivial hx
  have hexec : ∀ r w', (Builtin.append_ #[t, t] o.type #[den ρ sv, den ρ xv]).run P w = .ok r w' → (execOp a.eval o).run P w = .ok (.value r) w' := by
    intro r w' hr
    simp [execOp, ho, resolve, invoke, builtin, hs1', hx1, hr]
  unfold appendK at h
  simp only at h
  split at h
  case h_2 => exact h.elim
  rename_i ix
  simp only [svOk] at hx2
  split at h
  · -- a nil slice
    obtain ⟨α, inh, enc, ys, hrows, hb, hK⟩ := h
    obtain ⟨ad, c, news, hn⟩ := rows_sound hsz hm hx2 hrows
    obtain ⟨v', w', hr, h2, h3, h4⟩ := append_run (ty := o.type) hu hi hz hs1 hs2 hzs hsz (World.ownsRow_nil w 0 e _) hn.len (fun h0 => hn.nonnil (by intro e; subst e; simp at h0)) hn.cells hn.one (by simp only [maxLen]; have := Nat.le_mul_of_pos_right ys.length hby; omega) (by simpa using hb)
    have hbel := below_of_grown h3 rfl
    obtain ⟨st', hK', hadv, hlt, _⟩ := newOwn_sound (c := .own e α inh (ttGet tt e).size enc ys) (w' := w') (v := v') hm hbel
      (fun ρ' _ => by
        have := OwnOk.append (S := S) (w := w) (xs := ([] : List α)) (ys := ys) (vals := []) (news := news) (w' := w') (v' := v') (inh := inh) (enc := enc) (sz := (ttGet tt e).size) (t := e) (by simp) (by simpa using h2) (fun i j d hi => by simp at hi) hn.rep (fun b hS => hbel.block b (hm.lt b hS))
        simpa [ChunkOk] using this)
      (by simp [cellsIn, svOkL]) (fun b hb' => by
        rcases h4 b (by simpa [ownBlk] using hb') with h5 | h5
        · simp [Value.ownBlock] at h5
        · exact h5) (by first | rfl | simp) hK
    refine LOk.value hK' hadv (by simpa [svOk] using hlt) ?_
    simp only [den, upd_same]
    exact hexec _ _ (by simp only [den]; rw [hn.val]; exact hr)
  · -- a slice of one's own
    rename_i is
    simp only [svOk] at hs2'
    split at h
    · rename_i t' α inh sz enc xs hc
      split at h
      case h_2 => exact h.elim
      rename_i hbt hbs hbi
      have e1 := Nat.eq_of_beq_eq_true hbt
      have e2 := Nat.eq_of_beq_eq_true hbs
      subst e1
      obtain ⟨ys, hrows, hb, hK⟩ := h
      have hok := hm.ok is hs2'
      rw [hc] at hok
      exact append_core (s := s) (x := x) htt hm hd hk hzl hsz hby (fun r w' hr => hexec r w' (by simpa only [den] using hr)) hs2' hx2 e2 hok (fun b hb' => by rw [hc]; exact hb') hrows hb hK
    · rename_i t' n sz cells hc
      split at h
      case h_2 => exact h.elim
      rename_i hbt hbs hbi hbn
      have e1 := Nat.eq_of_beq_eq_true hbt
      have e2 := Nat.eq_of_beq_eq_true hbs
      have hn := Nat.le_of_ble_eq_true hbn
      subst e1
      obtain ⟨α, inh, enc, xs, ys, hr0, hrows, hb, hK⟩ := h
      exact append_core (s := s) (x := x) htt hm hd hk hzl hsz hby (fun r w' hr => hexec r w' (by simpa only [den] using hr)) hs2' hx2 e2 (raw_own hm hs2' hc hn hr0) (fun b hb' => by rw [hc]; exact hb') hrows hb hK
    · exact h.elim
  · exact h.elim

theorem rowsStr_rep {b : ByteArray} {α : Type} {inh : Inhabited α} {enc : α → List DV} {ys : List α} (h : rowsStr b α inh enc ys) (i j : Nat) (d : DV) (hi : i < ys.length) (hd : (enc (nth ys i))[j]? = some d) :
    ∃ x, (Lib.strCells b)[i * 1 + j]? = some x ∧ j < 1 ∧ DRep S w d x := by
  rw [h.2 i hi] at hd
  cases j with
  | succ j => simp at hd
  | zero =>
    simp only [List.getElem?_cons_zero, Option.some.injEq] at hd
    subst hd
    have hi' : i < b.data.toList.length := by have := h.1; simp only [Array.length_toList]; rw [this] at hi; exact hi
    exact ⟨_, by simp [Lib.strCells, List.getElem?_eq_getElem hi', List.getD_eq_getElem?_getD], by omega, .v _ rfl⟩

theorem appendStr_run {t u ty e : TypeId} {i : TypeInfo} {z : Value} (ht : P.underlying t = some (.slice e)) (hu : P.underlying u = some .string) (hi : P.info? e = some i) (hz : i.zero = some z) (hsize : i.size = 1) (hby : i.bytes = 1) (hz1 : z.cells.size = 1)
    {v : Value} {n : Nat} {xs : List Value} (hown : w.ownsRow 0 e 1 v n xs) (b : ByteArray) (hb : n + b.size ≤ 140737488355328) :
    ∃ v' w', (Builtin.append_ #[t, u] ty #[v, .string b]).run P w = .ok v' w' ∧ w'.ownsRow 0 e 1 v' (n + b.size) (xs ++ Lib.strCells b) ∧ w.grownBy w' v.ownBlock ∧ (∀ k, v'.ownBlock = some k → v.ownBlock = some k ∨ w.heap.size ≤ k) := by
  have h63 : n + b.size ≤ maxLen := by simp only [maxLen]; omega
  have hxl : xs.length = n := by simpa using hown.1
  have hlen : (xs ++ Lib.strCells b).length = (n + b.size) * 1 := by rw [List.length_append, hxl, Lib.strCells_length, Nat.mul_one]
  have grown : ∀ (old : Nat), old < n + b.size → ∀ (row : Option Nat),
      (w.drew.alloc (.cells (xs.toArray ++ (Lib.strCells b).toArray ++ Builtin.zeroCells z.cells (grownCap w (n + b.size) old e - (n + b.size))) e)).ownsRow 0 e 1
        (.slice (some ⟨w.heap.size, 0, none⟩) (n + b.size) (grownCap w (n + b.size) old e)) (n + b.size) (xs ++ Lib.strCells b) ∧
      w.grownBy (w.drew.alloc (.cells (xs.toArray ++ (Lib.strCells b).toArray ++ Builtin.zeroCells z.cells (grownCap w (n + b.size) old e - (n + b.size))) e)) row := by
    intro old ho row
    have hge := grownCap_ge w (n + b.size) old e
    have hcm : grownCap w (n + b.size) old e ≤ maxLen := grownCap_le_maxLen w (n + b.size) old e h63
    refine ⟨⟨hlen, .inr ⟨w.heap.size, _, _, rfl, Nat.zero_le _, heap_alloc_new w.drew _, hge, hcm, ?_, ?_⟩⟩, ⟨rfl, rfl, rfl, by simp, fun k hk _ => heap_alloc_old w.drew _ hk⟩⟩
    · simp only [Array.size_append, List.size_toArray, size_zeroCells, hz1, hxl, Lib.strCells_length]
      omega
    · simp only [Array.toList_append, List.append_assoc]
      rw [← List.append_assoc, ← hlen]
      exact List.take_left
  rcases hown.2 with ⟨rfl, rfl⟩ | ⟨g, cap, cur, rfl, hbg, hg, hnc, hcm, hcs, htake⟩
  · have hx : xs = [] := List.eq_nil_of_length_eq_zero hxl
    subst hx
    by_cases hm : b.size = 0
    · have hn : Lib.strCells b = [] := List.eq_nil_of_length_eq_zero (by rw [Lib.strCells_length]; exact hm)
      refine ⟨.slice none 0 0, w, ?_, by rw [hm, hn]; exact World.ownsRow_nil w 0 e 1, ⟨rfl, rfl, rfl, Nat.le_refl _, fun _ _ _ => rfl⟩, fun k hk => by simp [Value.ownBlock] at hk⟩
      have hf := Lib.run_firstCells_string (P := P) w 1 b
      rw [hm] at hf
      simp [Builtin.append_, run_underlying ht, run_underlying hu, sizeOf, typeInfo, hi, hsize, Builtin.lenOf, hm, hf]
    · have hr := run_append_nil_string (P := P) w t u ty e i z ht hu hi hz b (by omega) (by omega) (by rw [hby]; omega)
      have hgr := grown 0 (by omega) (Value.ownBlock (.slice none 0 0))
      simp only [Nat.zero_add, List.nil_append, Array.empty_append] at hgr ⊢
      have e1 : (b.data.map fun b => Value.int .u8 b.toNat) = (Lib.strCells b).toArray := by
        apply Array.ext'
        simp [Lib.strCells]
      rw [e1] at hr
      exact ⟨_, _, hr, hgr.1, hgr.2, fun k hk => .inr (by simp [Value.ownBlock] at hk; omega)⟩
  · by_cases hroom : n + b.size ≤ cap
    · have hcs' : cur.size = cap := by simpa using hcs
      have hr := Lib.run_append_room_string (P := P) w t u ty e i ht hu hi hsize g n cap cur hg b hroom (by omega)
      refine ⟨_, _, hr, ⟨hlen, .inr ⟨g, cap, _, rfl, hbg, setRow_heap w g cur _ e _ hg, hroom, hcm, ?_, ?_⟩⟩, ⟨rfl, rfl, rfl, by simp, fun k _ hk => setRow_other w g k _ (fun e => hk (by simp [Value.ownBlock, e]))⟩, fun k hk => .inl hk⟩
      · simp only [List.size_toArray, List.length_append, List.length_take, List.length_drop, Array.length_toList, Lib.strCells_length]
        omega
      · have ht' : cur.toList.take n = xs := by simpa using htake
        rw [ht', ← hlen]
        exact List.take_left
    · have holds : ∀ j u, xs[j]? = some u → w.cell? ((⟨g, 0, none⟩ : Addr).add j) = some u := hown.cells (g := g) rfl
      have hr := Lib.run_append_grow_string (P := P) w t u ty e i z ht hu hi hz ⟨g, 0, none⟩ n cap xs (by rw [hsize]; simpa using hxl) holds b (by omega) (by omega) (by rw [hby]; exact growslice_fits (by omega) (by omega))
      have hgr := grown cap (by omega) (Value.ownBlock (.slice (some ⟨g, 0, none⟩) n cap))
      exact ⟨_, _, hr, hgr.1, hgr.2, fun k hk => .inr (by simp [Value.ownBlock] at hk; omega)⟩

theorem l_appendStr {e t t' : TypeId} {s x : Operand} {sv : SV} {b : ByteArray} (htt : TTok P tt) (ho : o.op = .call ⟨.builtin .append, #[s, x], #[t, t']⟩) (hm : MemOk st ρ S w) (he : EnvOk ops st ρ a)
    (hd : (ttGet tt t).d = .sl e) (hd' : (ttGet tt t').d = .str) (hs : getV st [] s = some sv) (hx : getV st [] x = some (.v (.string b))) (hk : (ttGet tt e).d = .int .u8) (hzl : (ttGet tt e).zero.length = (ttGet tt e).size) (hsz : (ttGet tt e).size = 1) (hby : (ttGet tt e).bytes = 1)
    (h : appendStrK st e sv b K) : LOk P st o K Kp ρ S w a := by
  have hno : (ttGet tt e).d ≠ .other := by rw [hk]; simp
  have hu : P.underlying t = some (.slice e) := by have := tyOk_desc (htt t) (by rw [hd]; simp); rw [hd] at this; exact this
  have hu' : P.underlying t' = some .string := by have := tyOk_desc (htt t') (by rw [hd']; simp); rw [hd'] at this; exact this
  obtain ⟨inf, z, hi, hs1, hs2, hz, hzc⟩ := tyOk_info' (htt e) hno
  have hzs : z.cells.size = 1 := by rw [← Array.length_toList, hzc, hzl, hsz]
  obtain ⟨hs1', hs2'⟩ := getV_sound he (L := []) trivial hs
  obtain ⟨hx1, hx2⟩ := getV_sound he (L := []) trivial hx
  simp only [den] at hx1
  have hexec : ∀ r w', (Builtin.append_ #[t, t'] o.type #[den ρ sv, .string b]).run P w = .ok r w' → (execOp a.eval o).run P w = .ok (.value r) w' := by
    intro r w' hr
    simp [execOp, ho, resolve, invoke, builtin, hs1', hx1, hr]
  unfold appendStrK at h
  split at h
  · obtain ⟨α, inh, enc, ys, hrows, hb, hK⟩ := h
    obtain ⟨v', w', hr, h2, h3, h4⟩ := appendStr_run (P := P) (ty := o.type) hu hu' hi hz (hs1.trans hsz) (hs2.trans hby) hzs (World.ownsRow_nil w 0 e 1) b (by omega)
    have hbel := below_of_grown h3 rfl
    obtain ⟨st', hK', hadv, hlt, _⟩ := newOwn_sound (c := .own e α inh 1 enc ys) (w' := w') (v := v') hm hbel
      (fun ρ' _ => by
        have := OwnOk.append (S := S) (w := w) (xs := ([] : List α)) (ys := ys) (vals := []) (news := Lib.strCells b) (w' := w') (v' := v') (inh := inh) (enc := enc) (sz := 1) (t := e) (by simp) (by rw [hrows.1]; simpa using h2) (fun i j d hi => by simp at hi) (fun i j d => rowsStr_rep hrows i j d) (fun b hS => hbel.block b (hm.lt b hS))
        simpa [ChunkOk] using this)
      (by simp [cellsIn, svOkL]) (fun b hb' => by
        rcases h4 b (by simpa [ownBlk] using hb') with h5 | h5
        · simp [Value.ownBlock] at h5
        · exact h5) (by first | rfl | simp) hK
    refine LOk.value hK' hadv (by simpa [svOk] using hlt) ?_
    simp only [den, upd_same]
    exact hexec _ _ (by simp only [den]; exact hr)
  · rename_i is
    simp only [svOk] at hs2'
    split at h
    · rename_i t1 α inh sz enc xs hc
      split at h
      case h_2 => exact h.elim
      rename_i hbt hbs
      have e1 := Nat.eq_of_beq_eq_true hbt
      have e2 := Nat.eq_of_beq_eq_true hbs
      subst e1 e2
      obtain ⟨ys, hrows, hb, hK⟩ := h
      have hok := hm.ok is hs2'
      rw [hc] at hok
      refine append_any hm (Lib.strCells b) (fun vals hv => ?_) (fun i j d => rowsStr_rep hrows i j d) hs2' hok (fun b hb' => by rw [hc]; exact hb') hK
      obtain ⟨v', w', hr, h2, h3, h4⟩ := appendStr_run (P := P) (ty := o.type) hu hu' hi hz (hs1.trans hsz) (hs2.trans hby) hzs hv b (by rw [← hrows.1]; exact hb)
      exact ⟨v', w', hexec _ _ (by simpa only [den] using hr), by rw [hrows.1]; exact h2, h3, h4⟩
    · exact h.elim
  · exact h.elim
end
end Go.Eng

/-! part Snd12 -/
namespace Go.Eng
open Go.RowKit
open Classical

theorem rep_flat_get {α : Type} (l : List α) : ∀ (n i j : Nat), i < n → j < l.length → ((List.replicate n l).flatten)[i * l.length + j]? = l[j]?
  | 0, i, j, h, _ => by omega
  | n + 1, 0, j, _, hj => by
    rw [List.replicate_succ, List.flatten_cons, Nat.zero_mul, Nat.zero_add, List.getElem?_append_left hj]
  | n + 1, i + 1, j, h, hj => by
    rw [List.replicate_succ, List.flatten_cons, List.getElem?_append_right (by rw [Nat.succ_mul]; omega), show (i + 1) * l.length + j - l.length = i * l.length + j from by rw [Nat.succ_mul]; omega]
    exact rep_flat_get l n i j (by omega) hj

theorem nth_set {α : Type} [Inhabited α] (xs : List α) (i k : Nat) (y : α) (h : i < xs.length) : nth (xs.set i y) k = if k = i then y else nth xs k := by
  simp only [nth, List.getD_eq_getElem?_getD, List.getElem?_set]
  by_cases e : i = k
  · subst e; simp [h]
  · rw [if_neg e, if_neg (fun h => e h.symm)]

theorem spliceD_eq : ∀ (cs : List DV) (off : Nat) (ns : List DV), off ≤ cs.length → spliceD cs off ns = cs.take off ++ ns ++ cs.drop (off + ns.length)
  | cs, 0, ns, _ => by cases cs <;> simp [spliceD, dropL_eq]
  | [], off + 1, ns, h => by simp at h
  | c :: r, off + 1, ns, h => by
    have := spliceD_eq r off ns (by simpa using h)
    simp only [spliceD, this, List.take_succ_cons, List.cons_append, show off + 1 + ns.length = (off + ns.length) + 1 from by omega, List.drop_succ_cons]

theorem splice_get {α : Type u} (l ns : List α) (p q : Nat) (h : p + ns.length ≤ l.length) : (l.take p ++ ns ++ l.drop (p + ns.length))[q]? = if p ≤ q ∧ q < p + ns.length then ns[q - p]? else l[q]? := by
  by_cases h1 : q < p
  · rw [if_neg (by omega), List.append_assoc, List.getElem?_append_left (by simp; omega), List.getElem?_take]
    simp [h1]
  · by_cases h2 : q < p + ns.length
    · rw [if_pos (by omega), List.append_assoc, List.getElem?_append_right (by simp; omega)]
      have : (l.take p).length = p := by simp; omega
      rw [this, List.getElem?_append_left (by omega)]
    · rw [if_neg (by omega), List.getElem?_append_right (by simp; omega)]
      have : (l.take p ++ ns).length = p + ns.length := by simp; omega
      rw [this, List.getElem?_drop]
      congr 1
      omega

section
variable {P : Program} {tt : TT} {ops : Array Oper} {st : St} {o : Oper} {K : St → SV → Prop} {Kp : List PanicEntry → St → Prop} {ρ : Nat → Value} {S : Nat → Prop} {w : World} {a : Act}

theorem l_makeSlice0 {t : TypeId} {c : Operand} (htt : TTok P tt) (ho : o.op = .makeSlice t (.const (.int .i64 0)) c) (hm : MemOk st ρ S w) (he : EnvOk ops st ρ a)
    (h : match (ttGet tt t).d, getV st [] c with
    | .sl e, some (.v (.int .i64 m)) => (match knownD (ttGet tt e).d with
      | true => ∃ (α : Type) (inh : Inhabited α) (enc : α → List DV), 0 ≤ m ∧ (ttGet tt e).bytes * m ≤ 140737488355328 ∧ m ≤ 9223372036854775807 ∧ newCh st (.own e α inh (ttGet tt e).size enc []) (fun st' id => K st' (.sl id))
      | false => False)
    | _, _ => False) : LOk P st o K Kp ρ S w a := by
  split at h
  case h_2 => exact h.elim
  rename_i e m hd hc
  split at h
  case h_2 => exact h.elim
  rename_i hk
  obtain ⟨α, inh, enc, h0, hb, h63, hK⟩ := h
  have hno : (ttGet tt e).d ≠ .other := by intro e; rw [e] at hk; simp [knownD] at hk
  have hdesc := tyOk_desc (htt t) (by rw [hd]; simp)
  rw [hd] at hdesc
  have hu : P.underlying t = some (.slice e) := hdesc
  obtain ⟨inf, zv, hi, hs1, hs2, hz, hzc⟩ := tyOk_info' (htt e) hno
  have h2 := (getV_sound he (L := []) trivial hc).1
  simp only [den] at h2
  obtain ⟨k, rfl⟩ := Int.eq_ofNat_of_zero_le h0
  obtain ⟨w', hr, hown, hg⟩ := run_make_own (P := P) w 0 t e inf zv (ttGet tt e).size hu hi hz hs1 .i64 .i64 k (by rw [hs2]; omega) (by simp only [maxLen]; omega) (Nat.zero_le _)
  have hbel := below_of_grown hg rfl
  obtain ⟨st', hK', hadv, hlt, _⟩ := newOwn_sound (c := .own e α inh (ttGet tt e).size enc []) (w' := w') (v := .slice (some ⟨w.heap.size, 0, none⟩) 0 k) hm hbel
    (fun ρ' _ => ⟨_, hown, fun i j d hi' hd' => by simp at hi'⟩)
    (by simp [cellsIn, svOkL]) (fun b e => by simp [ownBlk, Value.ownBlock] at e; omega) (by first | rfl | simp) hK
  refine LOk.value hK' hadv (by simpa [svOk] using hlt) ?_
  have h1 : a.eval (.const (.int .i64 0)) = .int .i64 0 := rfl
  simp [execOp, ho, h1, h2, hr, den, upd_same]

theorem l_makeSlice {t : TypeId} {l c : Operand} (htt : TTok P tt) (ho : o.op = .makeSlice t l c) (hm : MemOk st ρ S w) (he : EnvOk ops st ρ a)
    (h : match (ttGet tt t).d, getV st [] l, getV st [] c with
    | .sl e, some (.v (.int .i64 n)), some (.v (.int .i64 m)) => (match knownD (ttGet tt e).d, Nat.beq (ttGet tt e).zero.length (ttGet tt e).size, allCell st [] ((ttGet tt e).zero.map .v) with
      | true, true, true => ∃ (α : Type) (inh : Inhabited α) (enc : α → List DV) (z : α), m = n ∧ 0 ≤ n ∧ (ttGet tt e).bytes * n ≤ 140737488355328 ∧ n ≤ 9223372036854775807 ∧ enc z = (ttGet tt e).zero.map .v ∧
          newCh st (.own e α inh (ttGet tt e).size enc (List.replicate n.toNat z)) (fun st' id => K st' (.sl id))
      | _, _, _ => False)
    | _, _, _ => False) : LOk P st o K Kp ρ S w a := by
  split at h
  case h_2 => exact h.elim
  rename_i e n m hd hl hc
  split at h
  case h_2 => exact h.elim
  rename_i hk hzl hac
  obtain ⟨α, inh, enc, z, rfl, h0, hb, h63, hencz, hK⟩ := h
  have hzl := Nat.eq_of_beq_eq_true hzl
  have hno : (ttGet tt e).d ≠ .other := by intro e; rw [e] at hk; simp [knownD] at hk
  have hdesc := tyOk_desc (htt t) (by rw [hd]; simp)
  rw [hd] at hdesc
  have hu : P.underlying t = some (.slice e) := hdesc
  obtain ⟨inf, zv, hi, hs1, hs2, hz, hzc⟩ := tyOk_info' (htt e) hno
  have h1 := (getV_sound he (L := []) trivial hl).1
  have h2 := (getV_sound he (L := []) trivial hc).1
  simp only [den] at h1 h2
  obtain ⟨k, rfl⟩ := Int.eq_ofNat_of_zero_le h0
  obtain ⟨w', hr, hown, hg⟩ := run_make_full (P := P) w 0 t e inf zv (ttGet tt e).size hu hi hz hs1 .i64 .i64 k (by rw [hs2]; omega) (by simp only [maxLen]; omega) (Nat.zero_le _)
  have hbel := below_of_grown hg rfl
  have hzs : zv.cells.size = (ttGet tt e).size := by rw [← Array.length_toList, hzc, hzl]
  have hvals : (madeCells zv.cells (k * (ttGet tt e).size)).toList = (List.replicate k (ttGet tt e).zero).flatten := by
    by_cases hne : zv.cells.toList = []
    · have hs0 : (ttGet tt e).size = 0 := by rw [← hzs, ← Array.length_toList, hne]; rfl
      have hz0 : (ttGet tt e).zero = [] := by rw [← hzc, hne]
      rw [hs0, hz0]; simp [madeCells]
    · have := madeCells_list zv.cells hne k
      unfold madeCells
      rw [← hzs, this, hzc]
  rw [hvals] at hown
  simp only [Int.toNat_natCast] at hK
  obtain ⟨st', hK', hadv, hlt, _⟩ := newOwn_sound (c := .own e α inh (ttGet tt e).size enc (List.replicate k z)) (w' := w') (v := .slice (some ⟨w.heap.size, 0, none⟩) k k) hm hbel
    (fun ρ' _ => by
      refine ⟨_, by rw [List.length_replicate]; exact hown, fun i j d hi' hd' => ?_⟩
      rw [List.length_replicate] at hi'
      have hnz : nth (List.replicate k z) i = z := by rw [nth_eq _ _ (by simpa using hi')]; simp
      rw [hnz, hencz, List.getElem?_map] at hd'
      cases hx : (ttGet tt e).zero[j]? with
      | none => simp [hx] at hd'
      | some x =>
        simp only [hx, Option.map_some, Option.some.injEq] at hd'
        subst hd'
        have hj := (List.getElem?_eq_some_iff.1 hx).1
        refine ⟨x, ?_, by omega, .v x ?_⟩
        · have := rep_flat_get (ttGet tt e).zero k i j hi' hj
          rw [hzl] at this
          rw [this, hx]
        · have := allCell_sound hm (svOkL_v _) hac x (by rw [denL_v]; exact List.mem_of_getElem? hx)
          exact this)
    (by simp [cellsIn, svOkL]) (fun b e => by simp [ownBlk, Value.ownBlock] at e; omega) (by first | rfl | simp) hK
  refine LOk.value hK' hadv (by simpa [svOk] using hlt) ?_
  simp [execOp, ho, h1, h2, hr, den, upd_same]

theorem l_store_el {t t' : TypeId} {p x : Operand} {id sz i off : Nat} {s : SV} {α : Type} {inh : Inhabited α} {sz' : Nat} {enc : α → List DV} {xs : List α} {ds : List DV} {y : α} (htt : TTok P tt) (ho : o.op = .store t p x) (hm : MemOk st ρ S w) (he : EnvOk ops st ρ a)
    (hp : getV st [] p = some (.el id sz i off)) (hx : getV st [] x = some s) (hk : knownD (ttGet tt t).d = true) (hc : chGet st.ch id = .own t' α inh sz' enc xs)
    (hf : flatOk st [] s = true) (hac : allCell st [] (cellsOf s) = true) (hds : toDVs st (cellsOf s) = some ds) (hlen : (cellsOf s).length = (ttGet tt t).size) (hsz : sz = sz') (hfit : off + (cellsOf s).length ≤ sz)
    (hy : enc y = spliceD (enc (nth xs i)) off ds) (hencl : (enc (nth xs i)).length = sz)
    (h : withCh st id (.own t' α inh sz enc (xs.set i y)) (fun st' => K st' (.v undef))) : LOk P st o K Kp ρ S w a := by
  subst hsz
  obtain ⟨hp1, hp2⟩ := getV_sound he (L := []) trivial hp
  obtain ⟨hx1, hx2⟩ := getV_sound he (L := []) trivial hx
  obtain ⟨hv1, hv2⟩ := flat_sound (L := []) hm trivial hx2 hf
  simp only [svOk] at hp2
  have hi := (hp2.2 xs.length (by rw [hc]; rfl)).1
  have hok := hm.ok id hp2.1
  rw [hc] at hok
  obtain ⟨vals, hown, hrep⟩ := hok
  obtain ⟨hvl, hcase⟩ := hown
  rcases hcase with ⟨_, h0⟩ | ⟨g, cap, cur, hval, _, hg, hnc, hcm, hcs, htake⟩
  · omega
  obtain ⟨st', hK, hch, hbs, henv, hn⟩ := withCh_sound h
  obtain ⟨hdl, hdrep⟩ := toDVs_sound hm _ _ hv2 hds
  have hnl : (denL ρ (cellsOf s)).length = (cellsOf s).length := by simp [denL_eq]
  have hpos : i * sz + sz ≤ xs.length * sz := by
    calc i * sz + sz = (i + 1) * sz := by rw [Nat.succ_mul]
      _ ≤ xs.length * sz := Nat.mul_le_mul_right _ hi
  have hcur : xs.length * sz ≤ cur.size := by rw [hcs]; exact Nat.mul_le_mul_right _ hnc
  have hrun := store_run (w := w) (off := i * sz + off) (htt t) hk hg hv1 (by rw [hnl]; exact hlen) (by rw [hnl]; omega) (allCell_sound hm hv2 hac)
  have hrel : ChRel st.ch (setCh st.ch id (.own t' α inh sz enc (xs.set i y))) := ⟨by rw [setCh_length]; exact Nat.le_refl _, fun j hj n hn => by
    rw [chGet_setCh _ _ _ _ hp2.1] at hn ⊢
    split at hn
    · rename_i e; subst e
      rw [if_pos rfl, hc]
      simp only [lenOf, Option.some.injEq, List.length_set] at hn
      exact ⟨xs.length, rfl, by omega, rfl⟩
    · rename_i e; rw [if_neg e]; exact ⟨n, hn, Nat.le_refl _, rfl⟩⟩
  have hob : ownBlk (chGet st.ch id) (ρ id) = some g := by rw [hc, hval]; rfl
  have hnS : ∀ b', S b' → b' ≠ g := fun b' hS e => hm.out id g hp2.1 hob (e ▸ hS)
  generalize hW : ((cur.toList.take (i * sz + off) ++ denL ρ (cellsOf s) ++ cur.toList.drop (i * sz + off + (denL ρ (cellsOf s)).length)).toArray) = row at hrun
  have hcl : i * sz + off + (denL ρ (cellsOf s)).length ≤ cur.toList.length := by rw [hnl]; simp; omega
  have hrow : ∀ q : Nat, row.toList[q]? = if i * sz + off ≤ q ∧ q < i * sz + off + (cellsOf s).length then (denL ρ (cellsOf s))[q - (i * sz + off)]? else cur.toList[q]? := by
    intro q
    rw [← hW, ← hnl]
    exact splice_get _ _ _ _ hcl
  have hrowl : row.size = cur.size := by
    rw [← hW]; simp only [List.size_toArray, List.length_append, List.length_take, List.length_drop, Array.length_toList] at hcl ⊢; omega
  refine LOk.skip (ρ' := ρ) (S' := S) (w' := w.setRow g row) hK ⟨hn, henv, hbs, by rw [hch]; exact hrel, fun _ _ => rfl, ?_, fun _ h => h, fun b' hlt hno => setRow_other _ _ _ _ (fun e => hno id hp2.1 (by rw [hob, e])), fun i' b' hi' h2 => ?_, fun _ h => .inl h, by rw [hch]; exact yks_set hp2.1 rfl, by simp, rfl, rfl, rfl⟩ ?_
  rotate_left
  · rw [hch, setCh_length] at hi'
    rw [hch, chGet_setCh _ _ _ _ hp2.1] at h2
    split at h2
    · rename_i e; subst e; exact .inr ⟨_, hp2.1, by rw [hob]; rw [hval] at h2; simpa [ownBlk, Value.ownBlock] using h2⟩
    · exact .inr ⟨i', hi', h2⟩
  rotate_left
  · refine hm.change hp2.1 hch hbs (fun b' hS => setRow_other _ _ _ _ (hnS b' hS)) (fun j b' hj hne h2 => setRow_other _ _ _ _ (fun e => ?_)) ?_ (by simp [cellsIn, svOkL]) hrel ?_ rfl (by simp)
    · exact hm.sep j id b' hj hp2.1 hne h2 (by rw [hob, e])
    · -- the row itself
      have hlist : (row.toList.take (xs.length * sz)).length = xs.length * sz := by simp; omega
      refine ⟨row.toList.take (xs.length * sz), ⟨by rw [List.length_set]; exact hlist, .inr ⟨g, cap, row, by rw [List.length_set]; exact hval, Nat.zero_le _, setRow_heap w g _ _ _ _ hg, by rw [List.length_set]; exact hnc, hcm, by rw [hrowl, hcs], by rw [List.length_set]⟩⟩, ?_⟩
      intro k j d hk' hd
      rw [List.length_set] at hk'
      rw [nth_set _ _ _ _ hi] at hd
      have hkeep : ∀ d', DRep S w d d' → DRep S (w.setRow g row) d d' := fun d' hr => DRep.mono (fun _ h => h) (fun b hS => setRow_other _ _ _ _ (hnS b hS)) hr
      have hold : ∀ q v, vals[q]? = some v → cur.toList[q]? = some v ∧ q < xs.length * sz := by
        intro q v hq
        rw [← htake, List.getElem?_take] at hq
        split at hq
        · exact ⟨hq, by assumption⟩
        · cases hq
      have hin : ∀ q v, q < xs.length * sz → row.toList[q]? = some v → (row.toList.take (xs.length * sz))[q]? = some v := by
        intro q v h1 h2
        rw [List.getElem?_take, if_pos h1]; exact h2
      by_cases e : k = i
      · subst e
        rw [if_pos rfl, hy] at hd
        rw [spliceD_eq _ _ _ (by omega), splice_get _ _ _ _ (by rw [hdl]; omega)] at hd
        have hj : j < sz := by
          rw [← hencl]
          split at hd
          · rename_i hh; rw [hdl] at hh; omega
          · exact (List.getElem?_eq_some_iff.1 hd).1
        split at hd
        · rename_i hh
          rw [hdl] at hh
          obtain ⟨v, hv, hr⟩ := hdrep _ d hd
          refine ⟨v, hin _ _ (by omega) ?_, hj, hkeep _ hr⟩
          rw [hrow, if_pos (by omega), ← hv]
          congr 1
          omega
        · rename_i hh
          rw [hdl] at hh
          obtain ⟨v, hv, _, hr⟩ := hrep k j d hk' hd
          obtain ⟨h1, h2⟩ := hold _ _ hv
          refine ⟨v, hin _ _ h2 ?_, hj, hkeep _ hr⟩
          rw [hrow, if_neg (by omega)]
          exact h1
      · rw [if_neg e] at hd
        obtain ⟨v, hv, hj, hr⟩ := hrep k j d hk' hd
        obtain ⟨h1, h2⟩ := hold _ _ hv
        refine ⟨v, hin _ _ h2 ?_, hj, hkeep _ hr⟩
        rw [hrow, if_neg, h1]
        rintro ⟨h3, h4⟩
        rcases Nat.lt_or_gt_of_ne e with hlt | hgt
        · have : k * sz + sz ≤ i * sz := by
            calc k * sz + sz = (k + 1) * sz := by rw [Nat.succ_mul]
              _ ≤ i * sz := Nat.mul_le_mul_right _ hlt
          omega
        · have : i * sz + sz ≤ k * sz := by
            calc i * sz + sz = (i + 1) * sz := by rw [Nat.succ_mul]
              _ ≤ k * sz := Nat.mul_le_mul_right _ hgt
          omega
    · intro b' h2; rw [hob]; rw [hval] at h2; simpa [ownBlk, Value.ownBlock] using h2
  · simp only [den, hval, Nat.zero_add] at hp1
    simp [execOp, ho, hp1, hx1, Instr.storeAt, Instr.sureAddr, hrun]
end
end Go.Eng

/-! part Snd12a -/
namespace Go.Eng
open Go.RowKit
open Classical

theorem own_drep {S : Nat → Prop} {w : World} {t : TypeId} {α : Type} {inh : Inhabited α} {sz : Nat} {enc : α → List DV} {xs : List α} {v : Value} (h : OwnOk S w t α inh sz enc xs v) (S' : Nat → Prop) (hS : ∀ b, S b → S' b) (hown : ∀ b, v.ownBlock = some b → S' b) : DRep S' w (.sl α inh sz enc xs) v := by
  obtain ⟨vals, ho, hv⟩ := h
  have ho' := ho
  obtain ⟨hl, hc⟩ := ho'
  rcases hc with ⟨rfl, h0⟩ | ⟨g, cap, cur, rfl, _, hg, hnc, _⟩
  · rw [show (Value.slice none 0 0) = .slice none xs.length 0 from by rw [h0]]
    refine .sl none 0 0 0 (fun _ _ => undef) (by omega) (fun hx => absurd (List.eq_nil_of_length_eq_zero h0) hx) (fun i j d hi => by omega) (fun i j d hi => by omega)
  · refine .sl (some ⟨g, 0, none⟩) cap g 0 (fun i j => (vals[i * sz + j]?).getD undef) hnc (fun _ => ⟨rfl, hown g rfl⟩) (fun i j d hi hd => ?_) (fun i j d hi hd => ?_)
    · obtain ⟨x, h1, _, _⟩ := hv i j d hi hd
      have := ho.cells (g := g) rfl _ x h1
      rw [Addr.add_lit] at this
      simp only [Nat.zero_add] at this ⊢
      rw [this, h1]; rfl
    · obtain ⟨x, h1, _, h2⟩ := hv i j d hi hd
      rw [h1]
      exact DRep.mono hS (fun _ _ => rfl) h2


section
variable {P : Program} {tt : TT} {ops : Array Oper} {st st' : St} {o : Oper} {K : St → SV → Prop} {Kp : List PanicEntry → St → Prop} {ρ : Nat → Value} {S : Nat → Prop} {w : World} {a : Act}

theorem LOk.pre {st1 : St} {S1 : Nat → Prop} (hadv : Adv st st1 ρ ρ S S1 w w) (h : LOk P st1 o K Kp ρ S1 w a) : LOk P st o K Kp ρ S w a :=
  fun next Q hn hp => h next Q (fun st' s ρ' S' w' h1 h2 h3 => hn st' s ρ' S' w' h1 (hadv.trans h2) h3) (fun ch st' ρ' S' w' h1 h2 => hp ch st' ρ' S' w' h1 (hadv.trans h2))

theorem getV_env {st st1 : St} (h : st1.env = st.env) (L : List (Nat × Bool)) (x : Operand) : getV st1 L x = getV st L x := by
  unfold getV; rw [h]
theorem bndV_env {st st1 : St} (h : st1.env = st.env) (L : List (Nat × Bool)) (d : Int) (x : Option Operand) : bndV st1 L d x = bndV st L d x := by
  unfold bndV; cases x <;> simp only [getV_env h]

/-- a slice of one's own, from now on only read -/
theorem frz_one {id : Nat} {t : TypeId} {α : Type} {inh : Inhabited α} {sz : Nat} {enc : α → List DV} {xs : List α} (hm : MemOk st ρ S w) (hid : id < st.ch.length) (hc : chGet st.ch id = .own t α inh sz enc xs)
    (hch : st'.ch = setCh st.ch id (.rd α inh sz enc xs)) (hbs : st'.bs = st.bs) (henv : st'.env = st.env) (hn : st'.n = st.n) : Adv st st' ρ ρ S (fun b => S b ∨ ownBlk (chGet st.ch id) (ρ id) = some b) w w := by
  have hrel : ChRel st.ch (setCh st.ch id (.rd α inh sz enc xs)) := ⟨by rw [setCh_length]; exact Nat.le_refl _, fun i hi n hn => by
    rw [chGet_setCh _ _ _ _ hid] at hn ⊢
    split at hn
    · rename_i e; subst e; rw [if_pos rfl, hc]; exact ⟨n, by simpa [lenOf] using hn, Nat.le_refl _, rfl⟩
    · rename_i e; rw [if_neg e]; exact ⟨n, hn, Nat.le_refl _, rfl⟩⟩
  have hok := hm.ok id hid
  rw [hc] at hok
  have hok : OwnOk S w t α inh sz enc xs (ρ id) := hok
  have hob : ∀ b, (ρ id).ownBlock = some b → ownBlk (chGet st.ch id) (ρ id) = some b := fun b h => by rw [hc]; exact h
  have hlt : ∀ b, ownBlk (chGet st.ch id) (ρ id) = some b → b < w.heap.size := fun b h => ownBlk_lt (hm.ok id hid) h
  refine ⟨hn, henv, hbs, by rw [hch]; exact hrel, fun _ _ => rfl, ⟨fun i hi => ?_, fun i => ?_, fun i j b hi hj hij h1 => ?_, fun i b hi h1 => ?_, fun b hb => ?_, fun i => ?_⟩, fun _ h => .inl h, fun _ _ _ => rfl, fun i b hi e => ?_, fun b hb => ?_, by rw [hch]; exact yks_set hid rfl, Nat.le_refl _, rfl, rfl, rfl⟩
  · rw [hch, setCh_length] at hi
    rw [hch, hbs, chGet_setCh _ _ _ _ hid]
    split
    · rename_i e; subst e
      exact own_drep hok _ (fun _ h => .inl h) (fun b hb => .inr (hob b hb))
    · exact ChunkOk.mono (fun _ h => .inl h) (fun _ _ => rfl) (fun _ _ => rfl) (hm.ok i hi)
  · rw [hch, chGet_setCh _ _ _ _ hid]
    split
    · simp [cellsIn, svOkL]
    · exact svOkL_rel hrel _ (hm.cells i)
  · rw [hch, setCh_length] at hi hj
    rw [hch, chGet_setCh _ _ _ _ hid] at h1 ⊢
    split at h1
    · simp [ownBlk] at h1
    · split
      · simp [ownBlk]
      · exact hm.sep i j b hi hj hij h1
  · rw [hch, setCh_length] at hi
    rw [hch, chGet_setCh _ _ _ _ hid] at h1
    split at h1
    · simp [ownBlk] at h1
    · rename_i e
      rintro (h | h)
      · exact hm.out i b hi h1 h
      · exact hm.sep i id b hi hid e h1 h
  · rcases hb with h | h
    · exact hm.lt b h
    · exact hlt b h
  · rw [hch, chGet_setCh _ _ _ _ hid, hbs]
    split
    · intro p hp; simp [condsOf] at hp
    · exact hm.ccl i
  · rw [hch, setCh_length] at hi
    rw [hch, chGet_setCh _ _ _ _ hid] at e
    split at e
    · simp [ownBlk] at e
    · exact .inr ⟨i, hi, e⟩
  · rcases hb with h | h
    · exact .inl h
    · exact .inr (.inr ⟨id, hid, h⟩)

theorem frz_sound {K : St → Prop} : ∀ (l : List SV) (st : St) (S : Nat → Prop), MemOk st ρ S w → svOkL st.ch l → frzK l st K → ∃ st1 S1, K st1 ∧ Adv st st1 ρ ρ S S1 w w
  | [], st, S, hm, _, h => ⟨st, S, h, Adv.refl hm⟩
  | s :: r, st, S, hm, hs, h => by
    simp only [svOkL] at hs
    simp only [frzK] at h
    split at h
    · rename_i id
      split at h
      · rename_i t α inh sz enc xs hc
        obtain ⟨st1, hK1, hch1, hbs1, henv1, hn1⟩ := withCh_sound h
        have hid : id < st.ch.length := by have := hs.1; simpa [svOk] using this
        have hadv := frz_one hm hid hc hch1 hbs1 henv1 hn1
        obtain ⟨st2, S2, h2, h3⟩ := frz_sound r st1 _ hadv.mem (svOkL_rel hadv.rel _ hs.2) hK1
        exact ⟨st2, S2, h2, hadv.trans h3⟩
      · exact frz_sound r st S hm hs.2 h
    · exact frz_sound r st S hm hs.2 h

theorem slicedV_zero (ad : Option Addr) (h m s : Nat) : slicedV ad 0 h m s = .slice ad h m := by
  unfold slicedV
  have : (ad.map fun x => x.add (0 * s)) = ad := by cases ad <;> simp [Addr.add]
  rw [this, Nat.sub_zero, Nat.sub_zero]
  split <;> rfl

theorem own_value {t : TypeId} {α : Type} {inh : Inhabited α} {sz : Nat} {enc : α → List DV} {xs : List α} {v : Value} (h : OwnOk S w t α inh sz enc xs v) : ∃ ad cap, v = .slice ad xs.length cap ∧ xs.length ≤ cap := by
  obtain ⟨vals, ⟨_, hor⟩, _⟩ := h
  rcases hor with ⟨rfl, h0⟩ | ⟨g, cap, cur, rfl, _, _, h3, _⟩
  · exact ⟨none, 0, by rw [h0], by omega⟩
  · exact ⟨_, cap, rfl, h3⟩
theorem own_take {t : TypeId} {α : Type} {inh : Inhabited α} {sz : Nat} {enc : α → List DV} {xs : List α} {ad : Option Addr} {cap : Nat} (h : OwnOk S w t α inh sz enc xs (.slice ad xs.length cap)) (n : Nat) (hn : n ≤ xs.length) : OwnOk S w t α inh sz enc (xs.take n) (.slice ad n cap) := by
  obtain ⟨vals, ⟨hl, hor⟩, hv⟩ := h
  have hn2 : n * sz ≤ xs.length * sz := Nat.mul_le_mul_right _ hn
  have htl : (xs.take n).length = n := by simp; omega
  refine ⟨vals.take (n * sz), ⟨?_, ?_⟩, fun i j d hi hd => ?_⟩
  · rw [htl, List.length_take, hl]; omega
  · rw [htl]
    rcases hor with ⟨e, h0⟩ | ⟨g, cap', cur, e, h1, h2, h3, h4, h5, h6⟩
    · simp only [Value.slice.injEq] at e
      left
      exact ⟨by rw [e.1, e.2.2, show n = 0 from by omega], by omega⟩
    · simp only [Value.slice.injEq] at e
      obtain ⟨rfl, _, rfl⟩ := e
      right
      refine ⟨g, cap, cur, rfl, h1, h2, by omega, h4, h5, ?_⟩
      rw [← h6, List.take_take, Nat.min_eq_left hn2]
  · rw [htl] at hi
    have e : nth (xs.take n) i = nth xs i := by unfold nth; rw [List.getD_eq_getElem?_getD, List.getD_eq_getElem?_getD, List.getElem?_take, if_pos hi]
    rw [e] at hd
    obtain ⟨x, h1, h2, h3⟩ := hv i j d (by omega) hd
    refine ⟨x, ?_, h2, h3⟩
    have : i * sz + j < n * sz := by
      have : (i + 1) * sz ≤ n * sz := Nat.mul_le_mul_right _ hi
      rw [Nat.add_mul] at this; omega
    rw [List.getElem?_take, if_pos this]; exact h1

theorem l_slice_own {t e id : Nat} {x : Operand} {lo hi : Option Operand} {t' : TypeId} {α : Type} {inh : Inhabited α} {sz : Nat} {enc : α → List DV} {xs : List α} {l h : Int} (htt : TTok P tt) (ho : o.op = .slice t x lo hi none) (hm : MemOk st ρ S w) (he : EnvOk ops st ρ a)
    (hx : getV st [] x = some (.sl id)) (hc : chGet st.ch id = .own t' α inh sz enc xs) (hd : (ttGet tt t).d = .sl e) (hl : bndV st [] 0 lo = some l) (hh : bndV st [] xs.length hi = some h) (hsz : Nat.beq sz (ttGet tt e).size = true) (hk : knownD (ttGet tt e).d = true)
    (hb : 0 ≤ l ∧ l ≤ h ∧ h ≤ xs.length)
    (hK : (l = 0 ∧ killCh st id (fun st1 => newCh st1 (.own t' α inh sz enc (xs.take h.toNat)) (fun st' i => K st' (.sl i)))) ∨
             withCh st id (.rd α inh sz enc xs) (fun st1 => newCh st1 (.rd α inh sz enc (midL xs l.toNat h.toNat)) (fun st' i => K st' (.sl i)))) : LOk P st o K Kp ρ S w a := by
  obtain ⟨h1, hid⟩ := getV_sound he (L := []) trivial hx
  simp only [den] at h1
  simp only [svOk] at hid
  have hok := hm.ok id hid
  rw [hc] at hok
  have hok : OwnOk S w t' α inh sz enc xs (ρ id) := hok
  rcases hK with ⟨h0, hK⟩ | hK
  · subst h0
    obtain ⟨ad, cap, hv, hcap⟩ := own_value hok
    obtain ⟨st1, hK1, hch1, hbs1, henv1, hn1⟩ := withCh_sound hK
    have hrel1 : ChRel st.ch (setCh st.ch id .dead) := ⟨by rw [setCh_length]; exact Nat.le_refl _, fun i hi n hn => by
      rw [chGet_setCh _ _ _ _ hid] at hn ⊢
      split at hn
      · simp [lenOf] at hn
      · rename_i e; rw [if_neg e]; exact ⟨n, hn, Nat.le_refl _, rfl⟩⟩
    have hm1 : MemOk st1 ρ S w := hm.change hid hch1 hbs1 (fun _ _ => rfl) (fun _ _ _ _ _ => rfl) trivial (by simp [cellsIn, svOkL]) hrel1 (fun b h => by simp [ownBlk] at h) rfl (Nat.le_refl _)
    have hadv1 : Adv st st1 ρ ρ S S w w := ⟨hn1, henv1, hbs1, by rw [hch1]; exact hrel1, fun _ _ => rfl, hm1, fun _ h => h, fun _ _ _ => rfl, fun i b hi e => by
      rw [hch1, setCh_length] at hi
      rw [hch1, chGet_setCh _ _ _ _ hid] at e
      split at e
      · simp [ownBlk] at e
      · exact .inr ⟨i, hi, e⟩, fun _ h => .inl h, by rw [hch1]; exact yks_set hid rfl, Nat.le_refl _, rfl, rfl, rfl⟩
    have hob : ∀ b, ownBlk (.own t' α inh sz enc (xs.take h.toNat)) (.slice ad h.toNat cap) = some b → ownBlk (chGet st.ch id) (ρ id) = some b := fun b hb => by
      rw [hc, hv]
      cases ad with
      | none => simp [ownBlk, Value.ownBlock] at hb
      | some x => simpa [ownBlk, Value.ownBlock] using hb
    rw [hv] at hok
    obtain ⟨st2, hK2, hadv2, hlt, _⟩ := newOwn_gen (c := .own t' α inh sz enc (xs.take h.toNat)) (w' := w) (v := .slice ad h.toNat cap) (st0 := st) hm1 (fun _ _ => rfl) (fun _ _ _ _ => rfl) (Nat.le_refl _) rfl rfl rfl
      (fun ρ' _ => own_take hok h.toNat (by omega)) (by simp [cellsIn, svOkL])
      (fun b hb' => by
        have := hob b hb'
        refine ⟨hm.out id b hid this, fun i hi => ?_⟩
        rw [hch1, setCh_length] at hi
        rw [hch1, chGet_setCh _ _ _ _ hid]
        split
        · simp [ownBlk]
        · rename_i hne; exact fun h => hm.sep i id b hi hid hne h this)
      (by first | rfl | simp) hadv1 (fun _ _ _ => rfl) (fun b hb' => .inr ⟨id, hid, hob b hb'⟩) hK1
    refine LOk.value hK2 hadv2 (by simpa [svOk] using hlt) ?_
    simp only [den, upd_same]
    rw [hv] at h1
    have := slice_run (P := P) (ad := ad) (len := xs.length) (cap := cap) (l := 0) (h := h) htt ho hd hk (Nat.eq_of_beq_eq_true hsz) he (L := []) trivial h1 hcap hl hh hb.1 hb.2.1 hb.2.2 w
    rw [this, show (0 : Int).toNat = 0 from rfl, slicedV_zero]
  · obtain ⟨st1, hK1, hch1, hbs1, henv1, hn1⟩ := withCh_sound hK
    have hadv := frz_one hm hid hc hch1 hbs1 henv1 hn1
    have he1 : EnvOk ops st1 ρ a := he.rel hn1 henv1 hbs1 hadv.rel (fun _ _ => rfl)
    refine LOk.pre hadv (LOk.ofQuiet trivial (q_slice (fun p hp => by simp at hp) htt ho hadv.mem he1 ?_))
    unfold sliceK
    rw [getV_env henv1, hx, hd]
    have hg : chGet st1.ch id = .rd α inh sz enc xs := by rw [hch1, chGet_setCh _ _ _ _ hid, if_pos rfl]
    simp only [hg, bndV_env henv1, hl, hh, hsz, hk]
    exact ⟨hb, hK1⟩

/-- a slice of an array behind a pointer: from now on it is only read -/
theorem l_slice_arr {t e id n : Nat} {x : Operand} {lo hi : Option Operand} {t' : TypeId} {α : Type} {inh : Inhabited α} {sz : Nat} {enc : α → List DV} {xs : List α} {l h : Int} (htt : TTok P tt) (ho : o.op = .slice t x lo hi none) (hm : MemOk st ρ S w) (he : EnvOk ops st ρ a)
    (hx : getV st [] x = some (.bx id 0)) (hc : chGet st.ch id = .own t' α inh sz enc xs) (hd : (ttGet tt t).d = .arr n e) (hl : bndV st [] 0 lo = some l) (hh : bndV st [] xs.length hi = some h) (hsz : Nat.beq sz (ttGet tt e).size = true) (hk : knownD (ttGet tt e).d = true)
    (hb : 0 ≤ l ∧ l ≤ h ∧ h ≤ xs.length) (hpos : 0 < xs.length) (hn : xs.length = n)
    (hK : withCh st id (.rd α inh sz enc xs) (fun st1 => newCh st1 (.rd α inh sz enc (midL xs l.toNat h.toNat)) (fun st' i => K st' (.sl i)))) : LOk P st o K Kp ρ S w a := by
  obtain ⟨h1, hid⟩ := getV_sound he (L := []) trivial hx
  simp only [svOk] at hid
  obtain ⟨st1, hK1, hch1, hbs1, henv1, hn1⟩ := withCh_sound hK
  obtain ⟨S1, hadv⟩ : ∃ S1, Adv st st1 ρ ρ S S1 w w := ⟨_, frz_one hm hid hc hch1 hbs1 henv1 hn1⟩
  have he1 : EnvOk ops st1 ρ a := he.rel hn1 henv1 hbs1 hadv.rel (fun _ _ => rfl)
  have hg : chGet st1.ch id = .rd α inh sz enc xs := by rw [hch1, chGet_setCh _ _ _ _ hid, if_pos rfl]
  have hr := hadv.mem.ok id (by rw [hch1, setCh_length]; exact hid)
  rw [hg] at hr
  refine LOk.pre hadv (LOk.ofQuiet trivial ?_)
  have hno : (ttGet tt e).d ≠ .other := by intro e; rw [e] at hk; simp [knownD] at hk
  have hdesc := tyOk_desc (htt t) (by rw [hd]; simp)
  rw [hd] at hdesc
  have hdesc : P.underlying t = some (.array n e) := hdesc
  obtain ⟨inf, z, hinf, hsize, _⟩ := tyOk_info' (htt e) hno
  have hsz := Nat.eq_of_beq_eq_true hsz
  simp only [den] at h1
  have hr : DRep S1 w (.sl α inh sz enc xs) (ρ id) := hr
  generalize hv : ρ id = v at hr h1
  cases hr with
  | sl ad c b oo cell hcc hne hcell hrp =>
    obtain ⟨rfl, hSb⟩ := hne (by intro e; subst e; simp at hpos)
    have hd' : DRep S1 w (.sl α inh sz enc xs) (.slice (some ⟨b, oo, none⟩) xs.length n) := .sl _ n b oo cell (by omega) (fun _ => ⟨rfl, hSb⟩) hcell hrp
    have hm' := DRep.mid hd' l.toNat h.toNat (by omega) (by omega)
    obtain ⟨st', hK', hs, hlt⟩ := newCh_sound (L := []) (v := slicedV (some ⟨b, oo, none⟩) l.toNat h.toNat n sz) hadv.mem (fun p hp => by simp at hp) (fun _ => hm') hK1
    refine QOk.ofStep hK' hs fun _ => ⟨by simpa [svOk] using hlt, fun w' hw => ?_⟩
    simp only [den, upd_same]
    rw [hn] at hh
    have hbr := bounds_run (P := P) (b := false) (len := n) (cap := n) rfl (Nat.le_refl _) he (L := []) trivial hl hh hb.1 hb.2.1 (by omega) w'
    simp only [Nat.add_zero] at h1
    simp only [execOp, ho, h1, Instr.sliceAt]
    simp [Instr.sureAddr, run_underlying hdesc, hbr, sizeOf, typeInfo, hinf, slicedV, hsize, hsz]
    split <;> rfl
end
end Go.Eng

/-! part Snd12b -/
namespace Go.Eng
open Go.RowKit
open Classical

section
variable {P : Program} {tt : TT} {st : St} {L : List (Nat × Bool)} {ρ : Nat → Value} {S : Nat → Prop} {w : World}

/-! ### what is one's own, from now on only read -/
def frzOk (st : St) (c0 c : Chunk) : Prop :=
  match c0 with
  | .own _ α inh sz enc xs => c = .rd α inh sz enc xs
  | .raw _ n sz cells => (match c, toDVs st cells with
    | .rd _ _ sz' enc ys, some ds => sz' = sz ∧ ys.length = n ∧ ds = ys.flatMap enc ∧ ∀ y ∈ ys, (enc y).length = sz
    | _, _ => False)
  | .bx _ cells => (match c with
    | .rp [] ds => toDVs st cells = some ds
    | _ => False)
  | .rd α inh sz enc xs => (match c with
    | .rd β inh' sz' enc' ys => sz' = sz ∧ ys.length = xs.length ∧ ∀ (S : Nat → Prop) (w : World) (v : Value), DRep S w (.sl α inh sz enc xs) v → DRep S w (.sl β inh' sz' enc' ys) v
    | _ => False)
  | _ => False
def frzTo : List (Nat × Chunk) → St → (St → Prop) → Prop
  | [], st, K => K st
  | (id, c) :: r, st, K => Nat.blt id st.ch.length = true ∧ frzOk st (chGet st.ch id) c ∧ withCh st id c (fun st1 => frzTo r st1 K)

theorem frz_gen {st' : St} {id : Nat} {c : Chunk} (hm : MemOk st ρ S w) (hid : id < st.ch.length) (hown : ∀ v, ownBlk c v = none) (hce : cellsIn c = []) (hcd : condsOf c = []) (hny : noY c = true)
    (hrelc : ∀ n', lenOf c = some n' → ∃ n, lenOf (chGet st.ch id) = some n ∧ n ≤ n' ∧ szOf c = szOf (chGet st.ch id)) (hok : ChunkOk st.bs (fun b => S b ∨ ownBlk (chGet st.ch id) (ρ id) = some b) w ρ c (ρ id))
    (hch : st'.ch = setCh st.ch id c) (hbs : st'.bs = st.bs) (henv : st'.env = st.env) (hn : st'.n = st.n) : Adv st st' ρ ρ S (fun b => S b ∨ ownBlk (chGet st.ch id) (ρ id) = some b) w w := by
  have hrel : ChRel st.ch (setCh st.ch id c) := ⟨by rw [setCh_length]; exact Nat.le_refl _, fun i hi n hn => by
    rw [chGet_setCh _ _ _ _ hid] at hn ⊢
    split at hn
    · rename_i e; subst e; rw [if_pos rfl]; exact hrelc n hn
    · rename_i e; rw [if_neg e]; exact ⟨n, hn, Nat.le_refl _, rfl⟩⟩
  have hlt : ∀ b, ownBlk (chGet st.ch id) (ρ id) = some b → b < w.heap.size := fun b h => ownBlk_lt (hm.ok id hid) h
  refine ⟨hn, henv, hbs, by rw [hch]; exact hrel, fun _ _ => rfl, ⟨fun i hi => ?_, fun i => ?_, fun i j b hi hj hij h1 => ?_, fun i b hi h1 => ?_, fun b hb => ?_, fun i => ?_⟩, fun _ h => .inl h, fun _ _ _ => rfl, fun i b hi e => ?_, fun b hb => ?_, by rw [hch]; exact yks_set hid hny, Nat.le_refl _, rfl, rfl, rfl⟩
  · rw [hch, setCh_length] at hi
    rw [hch, hbs, chGet_setCh _ _ _ _ hid]
    split
    · rename_i e; subst e; exact hok
    · exact ChunkOk.mono (fun _ h => .inl h) (fun _ _ => rfl) (fun _ _ => rfl) (hm.ok i hi)
  · rw [hch, chGet_setCh _ _ _ _ hid]
    split
    · rw [hce]; simp [svOkL]
    · exact svOkL_rel hrel _ (hm.cells i)
  · rw [hch, setCh_length] at hi hj
    rw [hch, chGet_setCh _ _ _ _ hid] at h1 ⊢
    split at h1
    · rw [hown] at h1; cases h1
    · split
      · rw [hown]; simp
      · exact hm.sep i j b hi hj hij h1
  · rw [hch, setCh_length] at hi
    rw [hch, chGet_setCh _ _ _ _ hid] at h1
    split at h1
    · rw [hown] at h1; cases h1
    · rename_i e
      rintro (h | h)
      · exact hm.out i b hi h1 h
      · exact hm.sep i id b hi hid e h1 h
  · rcases hb with h | h
    · exact hm.lt b h
    · exact hlt b h
  · rw [hch, chGet_setCh _ _ _ _ hid, hbs]
    split
    · rw [hcd]; intro p hp; simp at hp
    · exact hm.ccl i
  · rw [hch, setCh_length] at hi
    rw [hch, chGet_setCh _ _ _ _ hid] at e
    split at e
    · rw [hown] at e; cases e
    · exact .inr ⟨i, hi, e⟩
  · rcases hb with h | h
    · exact .inl h
    · exact .inr (.inr ⟨id, hid, h⟩)

theorem frzTo_one {st' : St} {id : Nat} {c : Chunk} (hm : MemOk st ρ S w) (hid : id < st.ch.length) (h : frzOk st (chGet st.ch id) c)
    (hch : st'.ch = setCh st.ch id c) (hbs : st'.bs = st.bs) (henv : st'.env = st.env) (hn : st'.n = st.n) : Adv st st' ρ ρ S (fun b => S b ∨ ownBlk (chGet st.ch id) (ρ id) = some b) w w := by
  have hok := hm.ok id hid
  have hcl := hm.cells id
  unfold frzOk at h
  split at h
  · rename_i t α inh sz enc xs hc
    subst h
    exact frz_one hm hid hc hch hbs henv hn
  · rename_i t n sz cells hc
    split at h
    · rename_i α inh sz' enc ys ds hds
      obtain ⟨rfl, hlen, hx, hl⟩ := h
      rw [hc] at hok hcl
      obtain ⟨b, hv, hg⟩ := hok
      obtain ⟨h4, h5⟩ := toDVs_sound hm cells ds hcl hds
      have hob : ownBlk (chGet st.ch id) (ρ id) = some b := by rw [hc, hv]; rfl
      refine frz_gen hm hid (fun _ => rfl) rfl rfl rfl (fun n' hn' => ⟨n, by rw [hc]; rfl, by simp only [lenOf, Option.some.injEq] at hn'; omega, by rw [hc]; rfl⟩) ?_ hch hbs henv hn
      show DRep _ w (.sl α inh sz' enc ys) (ρ id)
      rw [hv, ← hlen]
      have hrep : ∀ (i j : Nat) d, i < ys.length → (enc (nth ys i))[j]? = some d → ∃ x, (denL ρ cells)[i * sz' + j]? = some x ∧ DRep S w d x := by
        intro i j d hi hd
        have hj : j < sz' := by
          have := hl (nth ys i) (by rw [nth_eq ys i hi]; exact List.getElem_mem _)
          have h6 := (List.getElem?_eq_some_iff.1 hd).1
          omega
        have := flatMap_get enc sz' ys hl i j hi hj
        rw [← hx, hd] at this
        exact h5 _ d this
      refine .sl (some ⟨b, 0, none⟩) ys.length b 0 (fun i j => ((denL ρ cells)[i * sz' + j]?).getD undef) (Nat.le_refl _) (fun _ => ⟨rfl, .inr (by rw [hc]; rfl)⟩) (fun i j d hi hd => ?_) (fun i j d hi hd => ?_)
      · obtain ⟨x, h1, _⟩ := hrep i j d hi hd
        rw [Nat.zero_add, cell_of_row w b _ _ t (0, 0) hg, h1]
        simpa using h1
      · obtain ⟨x, h1, h2⟩ := hrep i j d hi hd
        simp only [h1, Option.getD_some]
        exact DRep.mono (fun b hb => .inl hb) (fun _ _ => rfl) h2
    · exact h.elim
  · rename_i t cells hc
    split at h
    · rename_i ds
      rw [hc] at hok hcl
      obtain ⟨b, hv, hg⟩ := hok
      obtain ⟨h4, h5⟩ := toDVs_sound hm cells ds hcl h
      have hob : ownBlk (chGet st.ch id) (ρ id) = some b := by rw [hc, hv]; rfl
      refine frz_gen hm hid (fun _ => rfl) rfl rfl rfl (fun n' hn' => by simp [lenOf] at hn') ?_ hch hbs henv hn
      intro _
      show DRep _ w (.ptr ds) (ρ id)
      rw [hv]
      refine .ptr b 0 (fun j => ((denL ρ cells)[j]?).getD undef) (.inr (by rw [hc]; rfl)) (fun j d hd => ?_) (fun j d hd => ?_)
      · obtain ⟨x, h1, _⟩ := h5 j d hd
        rw [Nat.zero_add, cell_of_row w b _ _ t (0, 0) hg, h1]
        simpa using h1
      · obtain ⟨x, h1, h2⟩ := h5 j d hd
        rw [h1]
        exact DRep.mono (fun b hb => .inl hb) (fun _ _ => rfl) h2
    · exact h.elim
  · rename_i α inh sz enc xs hc
    split at h
    · rename_i β inh' sz' enc' ys
      obtain ⟨rfl, hlen, hmap⟩ := h
      rw [hc] at hok
      refine frz_gen hm hid (fun _ => rfl) rfl rfl rfl (fun n' hn' => ⟨xs.length, by rw [hc]; rfl, by simp only [lenOf, Option.some.injEq] at hn'; omega, by rw [hc]; rfl⟩) ?_ hch hbs henv hn
      show DRep _ w (.sl β inh' sz' enc' ys) (ρ id)
      exact DRep.mono (fun b hb => .inl hb) (fun _ _ => rfl) (hmap _ _ _ hok)
    · exact h.elim
  · exact h.elim

theorem frzTo_sound {K : St → Prop} : ∀ (l : List (Nat × Chunk)) (st : St) (S : Nat → Prop), MemOk st ρ S w → frzTo l st K → ∃ st1 S1, K st1 ∧ Adv st st1 ρ ρ S S1 w w
  | [], st, S, hm, h => ⟨st, S, h, Adv.refl hm⟩
  | (id, c) :: r, st, S, hm, ⟨hid, hok, h⟩ => by
    obtain ⟨st1, hK1, hch1, hbs1, henv1, hn1⟩ := withCh_sound h
    have hadv := frzTo_one hm (by simpa [Nat.blt_eq] using hid) hok hch1 hbs1 henv1 hn1
    obtain ⟨st2, S2, h2, h3⟩ := frzTo_sound r st1 _ hadv.mem hK1
    exact ⟨st2, S2, h2, hadv.trans h3⟩

end
end Go.Eng

/-! part Snd13 -/
namespace Go.Eng
open Go.RowKit
open Classical

section
variable {tt : TT} {ops : Array Oper} {st : St} {o : Oper} {K : St → SV → Prop} {Kp : List PanicEntry → St → Prop} {ρ : Nat → Value} {S : Nat → Prop} {w : World} {a : Act}

theorem l_gop {P : Program} {op : Op} (ho : o.op = op) (hm : MemOk st ρ S w) (he : EnvOk ops st ρ a) (h : GOp P st op K) : LOk P st o K Kp ρ S w a := by
  obtain ⟨st', s, ρ', S', w', hr, hadv, hs, hK⟩ := h.run ρ S w a.eval o hm (fun x s hx => getV_sound he (L := []) trivial hx) ho
  rcases hr with hr | ⟨rfl, hr⟩
  · exact LOk.value hK hadv hs hr
  · exact LOk.skip hK hadv hr
theorem lop_sound {cf : Cfg} (hcf : CfgOk cf) (hm : MemOk st ρ S w) (he : EnvOk ops st ρ a) (h : lop cf cf.tt st o.op K Kp) : LOk cf.P st o K Kp ρ S w a := by
  generalize ho : o.op = op at h
  unfold lop at h
  split at h
  · exact (l_alloc hcf.tt ho hm h).ok
  · exact (l_box ho hm he h).ok
  · split at h
    · rename_i id off s hp hx hk
      split at h
      · rename_i t' cells hc
        split at h
        · rename_i hf hac hlen hfit
          exact l_store_bx hcf.tt ho hm he hp hx hk hc hf hac (Nat.eq_of_beq_eq_true hlen) (Nat.le_of_ble_eq_true hfit) h
        · exact h.elim
      · exact h.elim
    · rename_i id sz i off s hp hx hk
      have hcs : svOkL st.ch (cellsOf s) := by
        have := (getV_sound he (L := []) trivial hx).2
        cases s with
        | agg l => simpa [svOk, cellsOf] using this
        | v x =>
          unfold cellsOf
          split
          · rename_i h2; cases h2
          · exact svOkL_v _
          · simp [svOkL, svOk]
        | _ => simpa [svOkL, cellsOf] using this
      obtain ⟨st1, S1, h, hadv⟩ := frz_sound _ st S hm hcs h
      have he1 : EnvOk ops st1 ρ a := he.rel hadv.n hadv.env hadv.bs hadv.rel (fun _ _ => rfl)
      refine LOk.pre hadv ?_
      split at h
      · rename_i t' α inh sz' enc xs hc
        split at h
        · rename_i ds hf hac hds hlen hsz hfit
          obtain ⟨y, hy, hl, h⟩ := h
          exact l_store_el hcf.tt ho hadv.mem he1 (by rw [getV_env hadv.env]; exact hp) (by rw [getV_env hadv.env]; exact hx) hk hc hf hac hds (Nat.eq_of_beq_eq_true hlen) (Nat.eq_of_beq_eq_true hsz) (Nat.le_of_ble_eq_true hfit) hy hl h
        · exact h.elim
      · exact h.elim
    · exact h.elim
  · exact (l_buildSlice hcf.tt ho hm he h).ok
  · exact l_makeSlice0 hcf.tt ho hm he h
  · exact l_makeSlice hcf.tt ho hm he h
  · rename_i args ts
    split at h
    · rename_i s x t t' hargs hts
      have e1 : args = #[s, x] := by apply Array.toList_inj.1; simpa using hargs
      have e2 : ts = #[t, t'] := by apply Array.toList_inj.1; simpa using hts
      subst e1 e2
      split at h
      · rename_i e sv b htt hd hs hx
        split at h
        · rename_i hd' hde hzl hsz hby
          exact l_appendStr hcf.tt ho hm he hd hd' hs hx hde (Nat.eq_of_beq_eq_true hzl) (Nat.eq_of_beq_eq_true hsz) (Nat.eq_of_beq_eq_true hby) h
        · exact h.elim
      · rename_i e sv xv htt hd hs hx
        have := Nat.eq_of_beq_eq_true htt
        subst this
        split at h
        · rename_i hk hzl hsz hby
          have hcs : svOkL st.ch (rawC st xv) := by
            unfold rawC
            split
            · rename_i ix
              have := hm.cells ix
              split
              · rename_i hc; rw [hc] at this; exact this
              · simp [svOkL]
            · simp [svOkL]
          obtain ⟨st1, S1, h, hadv⟩ := frz_sound _ st S hm hcs h
          have he1 : EnvOk ops st1 ρ a := he.rel hadv.n hadv.env hadv.bs hadv.rel (fun _ _ => rfl)
          refine LOk.pre hadv ?_
          exact l_append hcf.tt ho hadv.mem he1 hd (by rw [getV_env hadv.env]; exact hs) (by rw [getV_env hadv.env]; exact hx) hk (Nat.eq_of_beq_eq_true hzl) (Nat.le_of_ble_eq_true hsz) (Nat.le_of_ble_eq_true hby) h
        · exact h.elim
      · exact h.elim
    · exact h.elim
  · rename_i f args ts
    split at h
    · rename_i l hf hl
      rcases h with ⟨r, hq, hK⟩ | h
      · exact LOk.ofQuiet trivial (q_call hcf ho hm he (by rw [hf, hl]; exact ⟨r, hq, hK⟩))
      · obtain ⟨h1, _⟩ := getVs_sound he (L := []) trivial _ _ hl
        have hargs : args.map a.eval = (denL ρ l).toArray := by rw [← h1, ← Array.toList_map]
        have hrun : (execOp a.eval o).run cf.P w = .ok (.enter f (denL ρ l).toArray) w := by
          have := hcf.fns f (hasN_mem hf) (denL ρ l).toArray w
          simp [execOp, ho, resolve, Act.eval, Deferred.ofValue, invoke, hargs, this]
        intro next Q hn hp
        unfold Oper.wp
        rw [hrun]
        refine (h ρ S w hm).mono fun e w' h => ?_
        rcases h with ⟨st', s, ρ', S', he', hadv, hs, hK⟩ | ⟨ch, st', ρ', S', he', hadv, hK⟩
        · subst he'
          exact hn st' s ρ' S' w' hK hadv hs
        · subst he'
          exact hp ch st' ρ' S' w' hK hadv
    · exact LOk.ofQuiet trivial (q_pureS ho hm he h)
    · exact h.elim
  · rename_i t args ts
    split at h
    · rename_i f caps l hfn hl
      split at h
      · rename_i hf
        rcases h with ⟨r, hq, hK⟩ | h
        · exact LOk.ofQuiet trivial (q_callv hcf ho hm he (by rw [hfn, hl]; simp only [hf]; exact ⟨r, hq, hK⟩))
        · obtain ⟨h1, _⟩ := getVs_sound he (L := []) trivial _ _ hl
          obtain ⟨h2, _⟩ := getV_sound he (L := []) trivial hfn
          have hargs : args.map a.eval = (denL ρ l).toArray := by rw [← h1, ← Array.toList_map]
          have hrun : (execOp a.eval o).run cf.P w = .ok (.enter f (denL ρ (l ++ caps)).toArray) w := by
            have := hcf.fns f (hasN_mem hf) (denL ρ (l ++ caps)).toArray w
            rw [denL_append] at this ⊢
            simp only [den] at h2
            simp [execOp, ho, resolve, h2, Deferred.ofValue, invoke, hargs, this]
          intro next Q hn hp
          unfold Oper.wp
          rw [hrun]
          refine (h ρ S w hm).mono fun e w' h => ?_
          rcases h with ⟨st', s, ρ', S', he', hadv, hs, hK⟩ | ⟨ch, st', ρ', S', he', hadv, hK⟩
          · subst he'
            exact hn st' s ρ' S' w' hK hadv hs
          · subst he'
            exact hp ch st' ρ' S' w' hK hadv
      · exact h.elim
    · rename_i f first caps l hfn hl
      split at h
      · rename_i hf
        rcases h with ⟨r, hq, hK⟩ | h
        · exact LOk.ofQuiet trivial (q_callv hcf ho hm he (by rw [hfn, hl]; simp only [hf]; exact ⟨r, hq, hK⟩))
        · obtain ⟨h1, _⟩ := getVs_sound he (L := []) trivial _ _ hl
          obtain ⟨h2, _⟩ := getV_sound he (L := []) trivial hfn
          have hargs : args.map a.eval = (denL ρ l).toArray := by rw [← h1, ← Array.toList_map]
          have hrun : (execOp a.eval o).run cf.P w = .ok (.enter f (denL ρ (first ++ (l ++ caps))).toArray) w := by
            have := hcf.fns f (hasN_mem hf) (denL ρ (first ++ (l ++ caps))).toArray w
            rw [denL_append, denL_append] at this ⊢
            simp only [den] at h2
            simp [execOp, ho, resolve, h2, Deferred.ofValue, invoke, hargs, this]
          intro next Q hn hp
          unfold Oper.wp
          rw [hrun]
          refine (h ρ S w hm).mono fun e w' h => ?_
          rcases h with ⟨st', s, ρ', S', he', hadv, hs, hK⟩ | ⟨ch, st', ρ', S', he', hadv, hK⟩
          · subst he'
            exact hn st' s ρ' S' w' hK hadv hs
          · subst he'
            exact hp ch st' ρ' S' w' hK hadv
      · exact h.elim
    · exact LOk.ofQuiet trivial (q_callv hcf ho hm he h)
  · rename_i x name args ts
    split at h
    · rename_i t v l hx hl
      obtain ⟨f, r, hf, hr, h⟩ := h
      obtain ⟨h1, _⟩ := getVs_sound he (L := []) trivial _ _ hl
      have h2 := (getV_sound he (L := []) trivial hx).1
      simp only [den] at h2
      have hargs : args.map a.eval = (denL ρ l).toArray := by rw [← h1, ← Array.toList_map]
      have hrun : (execOp a.eval o).run cf.P w = .ok (.enter f (denL ρ (.v r :: l)).toArray) w := by
        have := hcf.fns f (hasN_mem hf) (r :: denL ρ l).toArray w
        show (execOp a.eval o).run cf.P w = .ok (.enter f (r :: denL ρ l).toArray) w
        simp [execOp, ho, resolve, h2, invoke, hargs, callMethod, hr, this]
      intro next Q hn hp
      unfold Oper.wp
      rw [hrun]
      refine (h ρ S w hm).mono fun e w' h => ?_
      rcases h with ⟨st', s, ρ', S', he', hadv, hs, hK⟩ | ⟨ch, st', ρ', S', he', hadv, hK⟩
      · subst he'
        exact hn st' s ρ' S' w' hK hadv hs
      · subst he'
        exact hp ch st' ρ' S' w' hK hadv
    · exact h.elim
  · split at h
    · rename_i t v hx
      have h1 := (getV_sound he (L := []) trivial hx).1
      simp only [den] at h1
      intro next Q _ hp
      have hr : (execOp a.eval o).run cf.P w = .halt (.panic (.iface t v)) w := by simp [execOp, ho, h1, Instr.panic, goPanic]
      unfold Oper.wp
      rw [hr, Oper.upon_panic]
      exact hp _ st ρ S w h (Adv.refl hm)
    · exact h.elim
  · split at h
    · exact LOk.ofQuiet trivial (q_pure ho hm he h)
    split at h
    · rename_i id hx
      split at h
      · rename_i t' α inh sz enc xs hc
        split at h
        · rename_i e l hh hd hl hh'
          split at h
          · rename_i hsz hk
            exact l_slice_own hcf.tt ho hm he hx hc hd hl hh' hsz hk h.1 h.2
          · exact h.elim
        · exact h.elim
      · exact LOk.ofQuiet trivial (q_slice (fun p hp => by simp at hp) hcf.tt ho hm he h)
    · rename_i id off hx
      split at h
      · rename_i t' α inh sz enc xs hc
        split at h
        · rename_i n e l hh hd hl hh'
          split at h
          · rename_i hsz hk
            exact l_slice_arr hcf.tt ho hm he hx hc hd hl hh' hsz hk h.1 h.2.1 h.2.2.1 h.2.2.2
          · exact h.elim
        · exact h.elim
      · rename_i t' cells hc
        split at h
        · rename_i ds hds
          have hid : id < st.ch.length := by have := (getV_sound he (L := []) trivial hx).2; simpa [svOk] using this
          obtain ⟨st1, hK1, hch1, hbs1, henv1, hn1⟩ := withCh_sound h
          have hadv := frzTo_one (c := .rp [] ds) hm hid (by rw [hc]; exact hds) hch1 hbs1 henv1 hn1
          have he1 : EnvOk ops st1 ρ a := he.rel hn1 henv1 hbs1 hadv.rel (fun _ _ => rfl)
          exact LOk.pre hadv (LOk.ofQuiet trivial (q_slice (fun p hp => by simp at hp) hcf.tt ho hadv.mem he1 hK1))
        · exact h.elim
      · exact LOk.ofQuiet trivial (q_slice (fun p hp => by simp at hp) hcf.tt ho hm he h)
    · exact LOk.ofQuiet trivial (q_slice (fun p hp => by simp at hp) hcf.tt ho hm he h)
    · exact h.elim
  · exact l_gop ho hm he h
  · exact l_gop ho hm he h
  · exact l_gop ho hm he h
  · exact LOk.ofQuiet trivial (qop_sound hcf (fun p hp => by simp at hp) hm he (by rw [ho]; exact h))

theorem Inv.adv {cx : Ctx} (hst : ∀ go, Stab (cx.J go)) {st' : St} {ρ' : Nat → Value} {S' : Nat → Prop} {w' : World} (h : Inv cx st ρ S w) (hadv : Adv st st' ρ ρ' S S' w w') : Inv cx st' ρ' S' w' where
  mem := hadv.mem
  frm b hb := by
    obtain ⟨h1, h2, h3⟩ := h.frm b hb
    have hlt := Nat.lt_of_lt_of_le h1 h.size
    refine ⟨h1, (hadv.frame b hlt h3).trans h2, fun i hi e => ?_⟩
    rcases hadv.ownf i b hi e with h4 | ⟨j, hj, h4⟩
    · omega
    · exact h3 j hj h4
  size := Nat.le_trans h.size hadv.size
  os := hadv.os.trans h.os
  tape := hadv.tape.trans h.tape
  output := hadv.output.trans h.output
  kle := Nat.le_trans h.kle hadv.rel.1
  anch id hid := (hadv.old id (Nat.lt_of_lt_of_le hid h.kle)).trans (h.anch id hid)
  yl id l go n e := by
    obtain ⟨h1, U, h2, h3, h4⟩ := h.yl id l go n (hadv.yks id l go n e)
    refine ⟨h1, U, hst go U n w w' h2 (fun b hb => hadv.frame b (h3 b hb).1 (h3 b hb).2) hadv.size hadv.os hadv.tape hadv.output, fun b hb => ⟨Nat.lt_of_lt_of_le (h3 b hb).1 hadv.size, fun i hi e => ?_⟩, fun b hb => ?_⟩
    · rcases hadv.ownf i b hi e with h5 | ⟨j, hj, h5⟩
      · have := (h3 b hb).1; omega
      · exact (h3 b hb).2 j hj h5
    · rcases hadv.grow b hb with h5 | h5 | ⟨j, hj, h5⟩
      · exact h4 b h5
      · exact .inr fun hU => by have := (h3 b hU).1; omega
      · exact .inr fun hU => (h3 b hU).2 j hj h5
  one i j li gi ni lj gj nj e1 e2 := h.one i j _ _ _ _ _ _ (hadv.yks _ _ _ _ e1) (hadv.yks _ _ _ _ e2)
  sf b hF hS := by
    obtain ⟨h1, _, h3⟩ := h.frm b hF
    rcases hadv.grow b hS with h5 | h5 | ⟨j, hj, h5⟩
    · exact h.sf b hF h5
    · have := h.size; omega
    · exact absurd h5 (h3 j hj)

theorem Inv.mv {cx : Ctx} {st' : St} (h : Inv cx st ρ S w) (hm : MemOk st' ρ S w) (ho : OwnEq st st') : Inv cx st' ρ S w :=
  ⟨hm, fun b hb => by obtain ⟨h1, h2, h3⟩ := h.frm b hb; exact ⟨h1, h2, fun i hi => by rw [ho.2.1]; exact h3 i (by rw [← ho.1]; exact hi)⟩, h.size, h.os, h.tape, h.output, by rw [ho.1]; exact h.kle, h.anch, fun id l go n e => by
    obtain ⟨h1, U, h2, h3, h4⟩ := h.yl id l go n (ho.2.2 id l go n e)
    exact ⟨h1, U, h2, fun b hb => ⟨(h3 b hb).1, fun i hi => by rw [ho.2.1]; exact (h3 b hb).2 i (by rw [← ho.1]; exact hi)⟩, h4⟩, fun i j li gi ni lj gj nj e1 e2 => h.one i j _ _ _ _ _ _ (ho.2.2 _ _ _ _ e1) (ho.2.2 _ _ _ _ e2), h.sf⟩
theorem Inv.keep {cx : Ctx} (h : Inv cx st ρ S w) (b : Nat) (hb : cx.F b) : w.heap[b]? = cx.wE.heap[b]? := (h.frm b hb).2.1
theorem Inv.grown {cx : Ctx} (hst : ∀ go, Stab (cx.J go)) {st' : St} {ρ' : Nat → Value} {w' : World} (h : Inv cx st ρ S w) (hm : MemOk st' ρ' S w') (hb : CC w w') (hl : st.ch.length ≤ st'.ch.length) (ho : ∀ id, id < st.ch.length → ρ' id = ρ id)
    (hown : ∀ i b, i < st'.ch.length → ownBlk (chGet st'.ch i) (ρ' i) = some b → ∃ j, j < st.ch.length ∧ ownBlk (chGet st.ch j) (ρ j) = some b) (hyk : ∀ i l go n, chGet st'.ch i = .yk l go n → chGet st.ch i = .yk l go n) : Inv cx st' ρ' S w' :=
  ⟨hm, fun b hF => by
    obtain ⟨h1, h2, h3⟩ := h.frm b hF
    exact ⟨h1, (Below.block hb b (Nat.lt_of_lt_of_le h1 h.size)).trans h2, fun i hi e => by obtain ⟨j, hj, h4⟩ := hown i b hi e; exact h3 j hj h4⟩,
    Nat.le_trans h.size hb.size, hb.os.trans h.os, hb.tape.trans h.tape, hb.output.trans h.output, Nat.le_trans h.kle hl, fun id hid => (ho id (Nat.lt_of_lt_of_le hid h.kle)).trans (h.anch id hid), fun id l go n e => by
    obtain ⟨h1, U, h2, h3, h4⟩ := h.yl id l go n (hyk id l go n e)
    exact ⟨h1, U, hst go U n w w' h2 (fun b hU => Below.block hb b (h3 b hU).1) hb.size hb.os hb.tape hb.output, fun b hU => ⟨Nat.lt_of_lt_of_le (h3 b hU).1 hb.size, fun i hi e => by obtain ⟨j, hj, h5⟩ := hown i b hi e; exact (h3 b hU).2 j hj h5⟩, h4⟩, fun i j li gi ni lj gj nj e1 e2 => h.one i j _ _ _ _ _ _ (hyk _ _ _ _ e1) (hyk _ _ _ _ e2), h.sf⟩

/-- what it speaks of has stayed -/
theorem MemOk.stab {w' : World} (h : MemOk st ρ S w) (hS : ∀ b, S b → w'.heap[b]? = w.heap[b]?) (hown : ∀ i b, i < st.ch.length → ownBlk (chGet st.ch i) (ρ i) = some b → w'.heap[b]? = w.heap[b]?) (hsz : w.heap.size ≤ w'.heap.size) : MemOk st ρ S w' where
  ok id hid := ChunkOk.mono (fun _ h => h) hS (fun b e => hown id b hid e) (h.ok id hid)
  cells := h.cells
  sep := h.sep
  out := h.out
  lt b hb := Nat.lt_of_lt_of_le (h.lt b hb) hsz
  ccl := h.ccl

theorem DefOk.adv {cx : Ctx} {st' : St} {ρ' : Nat → Value} {S' : Nat → Prop} {w' : World} {dl : List Deferred} (h : DefOk cx st ρ S w dl) (hadv : Adv st st' ρ ρ' S S' w w') : DefOk cx st' ρ' S' w' dl := by
  obtain ⟨Ds, h1, hnd, h0, h2⟩ := h
  refine ⟨Ds, h1, hnd, fun hne id l go n e => h0 hne id l go n (hadv.yks id l go n e), fun D hD => ?_⟩
  obtain ⟨h3, h4, h5, h6⟩ := h2 D hD
  have hlt := (Array.getElem?_eq_some_iff.1 h3).1
  refine ⟨(hadv.frame D hlt h6).trans h3, h4, fun hS => ?_, fun i hi e => ?_⟩
  · rcases hadv.grow D hS with h7 | h7 | ⟨j, hj, h7⟩
    · exact h5 h7
    · omega
    · exact h6 j hj h7
  · rcases hadv.ownf i D hi e with h7 | ⟨j, hj, h7⟩
    · omega
    · exact h6 j hj h7
theorem DefOk.mv {cx : Ctx} {st' : St} {dl : List Deferred} (h : DefOk cx st ρ S w dl) (ho : OwnEq st st') : DefOk cx st' ρ S w dl := by
  obtain ⟨Ds, h1, hnd, h0, h2⟩ := h
  refine ⟨Ds, h1, hnd, fun hne id l go n e => h0 hne id l go n (ho.2.2 id l go n e), fun D hD => ?_⟩
  obtain ⟨h3, h4, h5, h6⟩ := h2 D hD
  exact ⟨h3, h4, h5, fun i hi => by rw [ho.2.1]; exact h6 i (by rw [← ho.1]; exact hi)⟩
theorem DefOk.grown {cx : Ctx} {st' : St} {ρ' : Nat → Value} {w' : World} {dl : List Deferred} (h : DefOk cx st ρ S w dl) (hb : CC w w')
    (hown : ∀ i b, i < st'.ch.length → ownBlk (chGet st'.ch i) (ρ' i) = some b → ∃ j, j < st.ch.length ∧ ownBlk (chGet st.ch j) (ρ j) = some b) (hyk : ∀ i l go n, chGet st'.ch i = .yk l go n → chGet st.ch i = .yk l go n) : DefOk cx st' ρ' S w' dl := by
  obtain ⟨Ds, h1, hnd, h0, h2⟩ := h
  refine ⟨Ds, h1, hnd, fun hne id l go n e => h0 hne id l go n (hyk id l go n e), fun D hD => ?_⟩
  obtain ⟨h3, h4, h5, h6⟩ := h2 D hD
  exact ⟨(Below.block hb D (Array.getElem?_eq_some_iff.1 h3).1).trans h3, h4, h5, fun i hi e => by obtain ⟨j, hj, h7⟩ := hown i D hi e; exact h6 j hj h7⟩

/-- both -/
structure InvD (cx : Ctx) (st : St) (ρ : Nat → Value) (S : Nat → Prop) (w : World) (dl : List Deferred) : Prop where
  inv : Inv cx st ρ S w
  df : DefOk cx st ρ S w dl
theorem InvD.adv {cx : Ctx} (hst : ∀ go, Stab (cx.J go)) {st' : St} {ρ' : Nat → Value} {S' : Nat → Prop} {w' : World} {dl : List Deferred} (h : InvD cx st ρ S w dl) (hadv : Adv st st' ρ ρ' S S' w w') : InvD cx st' ρ' S' w' dl := ⟨h.inv.adv hst hadv, h.df.adv hadv⟩
theorem InvD.mv {cx : Ctx} {st' : St} {dl : List Deferred} (h : InvD cx st ρ S w dl) (hm : MemOk st' ρ S w) (ho : OwnEq st st') : InvD cx st' ρ S w dl := ⟨h.inv.mv hm ho, h.df.mv ho⟩
theorem InvD.grown {cx : Ctx} (hst : ∀ go, Stab (cx.J go)) {st' : St} {ρ' : Nat → Value} {w' : World} {dl : List Deferred} (h : InvD cx st ρ S w dl) (hm : MemOk st' ρ' S w') (hb : CC w w') (hl : st.ch.length ≤ st'.ch.length) (ho : ∀ id, id < st.ch.length → ρ' id = ρ id)
    (hown : ∀ i b, i < st'.ch.length → ownBlk (chGet st'.ch i) (ρ' i) = some b → ∃ j, j < st.ch.length ∧ ownBlk (chGet st.ch j) (ρ j) = some b) (hyk : ∀ i l go n, chGet st'.ch i = .yk l go n → chGet st.ch i = .yk l go n) : InvD cx st' ρ' S w' dl :=
  ⟨h.inv.grown hst hm hb hl ho hown hyk, h.df.grown hb hown hyk⟩
theorem InvD.below' {cx : Ctx} (hst : ∀ go, Stab (cx.J go)) {w' : World} {dl : List Deferred} (h : InvD cx st ρ S w dl) (hb : CC w w') : InvD cx st ρ S w' dl :=
  h.grown hst (h.inv.mem.below hb) hb (Nat.le_refl _) (fun _ _ => rfl) (fun i b hi e => ⟨i, hi, e⟩) (fun _ _ _ _ e => e)
end
end Go.Eng

/-! part Snd13a -/
namespace Go.Eng
open Go.RowKit

/-! ### regions that draw their order: quiet operations beside operations that make memory, these in one forced order -/
section
variable {P : Program} {md : Region.Mode} {ops : Array Oper}

def cUpon (P : Program) (Qp : List PanicEntry → World → Prop) (K : Value → World → Prop) : Result Next → Prop
  | .ok (.value v) w' => K v w'
  | .ok .skip w' => K undef w'
  | .ok (.enter f args) w' => Calls P f args w' fun e w'' => (∃ v, e = .returned v ∧ K v w'') ∨ ∃ pc, e = .panicked pc ∧ Qp pc w''
  | .ok (.row row args) w' => Rows P row args w' K
  | _ => False

def cStep (P : Program) (ops : Array Oper) (Qp : List PanicEntry → Act → World → Prop) (i : Nat) (K : Act → World → Prop) (a : Act) (w : World) : Prop :=
  match ops[i]? with
  | none => False
  | some o => if Region.wanted o (yielded ops a.tmps) then cUpon P (fun pc w' => Qp pc a w') (fun v w' => K (a.put o.dst v) w') ((execOp a.eval o).run P w) else K (a.put o.dst undef) w

theorem cUpon_mono {Qp Qp' : List PanicEntry → World → Prop} {K K' : Value → World → Prop} (hp : ∀ pc w, Qp pc w → Qp' pc w) (h : ∀ v w, K v w → K' v w) {r : Result Next} (hr : cUpon P Qp K r) : cUpon P Qp' K' r := by
  cases r with
  | ok n w' =>
    cases n with
    | value v => exact h _ _ hr
    | skip => exact h _ _ hr
    | enter f args => exact Calls.mono hr fun e w'' hh => hh.imp (fun ⟨v, h1, h2⟩ => ⟨v, h1, h _ _ h2⟩) (fun ⟨pc, h1, h2⟩ => ⟨pc, h1, hp _ _ h2⟩)
    | row r args => exact Rows.mono hr h
    | _ => exact hr.elim
  | halt x w' => exact hr.elim

theorem cStep_mono {Qp : List PanicEntry → Act → World → Prop} {i : Nat} {K K' : Act → World → Prop} {a : Act} {w : World} (h : ∀ a w, K a w → K' a w) (hh : cStep P ops Qp i K a w) : cStep P ops Qp i K' a w := by
  unfold cStep at *
  split
  · rename_i ho; simp only [ho] at hh
  · rename_i o ho
    simp only [ho] at hh
    split
    · rename_i hw; simp only [hw, if_true] at hh; exact cUpon_mono (fun _ _ h => h) (fun v w => h _ w) hh
    · rename_i hw; simp only [hw] at hh; exact h _ _ hh

theorem wpOp_of_cStep {Qp : List PanicEntry → Act → World → Prop} {i : Nat} {K : Act → World → Prop} {Q : Exit → Act → World → Prop} (hq : ∀ pc a w, Qp pc a w → Q (.panic pc) a w) {a : Act} {w : World} (hh : cStep P ops Qp i K a w) : wpOp P ops Q i K a w := by
  unfold cStep at hh
  unfold wpOp
  split
  · rename_i ho; simp only [ho] at hh
  · rename_i o ho
    simp only [ho] at hh
    split
    · rename_i hw
      simp only [hw, if_true] at hh
      left
      unfold Oper.wp
      generalize (execOp a.eval o).run P w = r at *
      cases r with
      | ok n w' =>
        cases n with
        | value v => exact hh
        | skip => exact hh
        | enter f args => exact Calls.mono hh fun e w'' h0 => (match e, h0 with
        | _, .inl ⟨v, rfl, h2⟩ => h2
        | _, .inr ⟨pc, rfl, h2⟩ => hq _ _ _ h2)
        | row r args => exact hh
        | _ => exact hh.elim
      | halt x w' => exact hh.elim
    · rename_i hw; simp only [hw] at hh; exact hh

/-- the world is kept while the operation is waited for: 'oj' at 'a' with 'oi''s value laid, and without -/
theorem cStep_put {Qp : List PanicEntry → Act → World → Prop} {j : Nat} {oi oj : Oper} {v : Value} (hj : ops[j]? = some oj) (hap : oi.apart ops oj = true) (hsj : ∀ cs b, oj.op ≠ .select cs b)
    {K : Act → World → Prop} {a : Act} (hput : ∀ pc w, Qp pc (a.put oi.dst v) w → Qp pc a w) {w : World} (h : cStep P ops Qp j K (a.put oi.dst v) w) :
    cStep P ops Qp j (fun a' w' => (∃ u, a' = a.put oj.dst u) ∧ K (a'.put oi.dst v) w') a w := by
  obtain ⟨h1, h2, _⟩ := Oper.apart_spec hap
  unfold cStep at *
  simp only [hj] at *
  rw [wanted_put oj a oi.dst v h1, execOp_put oj hsj a oi.dst v h1] at h
  split
  · rename_i hw
    simp only [hw, if_true] at h
    exact cUpon_mono hput (fun u w' hK => ⟨⟨u, rfl⟩, by rw [← Act.put_comm a v u h2]; exact hK⟩) h
  · rename_i hw
    simp only [hw] at h
    exact ⟨⟨undef, rfl⟩, by rw [← Act.put_comm a v undef h2]; exact h⟩

/-- what may have come over the world when a quiet operation is worked out -/
structure RelC (C : World → World → Prop) : Prop where
  cc : ∀ {w w'}, CC w w' → C w w'
  trans : ∀ {a b c}, C a b → C b c → C a c
theorem RelC.CC : RelC CC := ⟨fun h => h, fun h k => CC.trans h k⟩

/-- whatever order is picked in the head; 'hd': its operations; behind it L -/
def wpM (Qp : List PanicEntry → Act → World → Prop) (C : World → World → Prop) (P : Program) (md : Region.Mode) (ops : Array Oper) (hd : Nat → Bool) (L : Array Bool → Act → World → Prop) : Nat → Array Bool → Act → World → Prop
  | 0, listed, a, w => ∀ w', CC w w' → L listed a w'
  | f + 1, listed, a, w => ∀ w', CC w w' → Region.ready md ops listed ≠ [] ∧ ∀ i ∈ Region.ready md ops listed, hd i = true ∧
      cStep P ops Qp i (fun a' w'' => C w' w'' ∧ wpM Qp C P md ops hd L f (listed.setIfInBounds i true) a' w'') a w'

theorem CC.refl (w : World) : CC w w := Below.refl _ _

theorem wpM_stable {Qp : List PanicEntry → Act → World → Prop} {C : World → World → Prop} {hd : Nat → Bool} {L : Array Bool → Act → World → Prop} {f : Nat} {listed : Array Bool} {a : Act} {w w' : World} (h : wpM Qp C P md ops hd L f listed a w) (hw : CC w w') : wpM Qp C P md ops hd L f listed a w' := by
  cases f with
  | zero => exact fun w2 h2 => h w2 (CC.trans hw h2)
  | succ f => exact fun w2 h2 => h w2 (CC.trans hw h2)

theorem wpAny_of_M {Qp : List PanicEntry → Act → World → Prop} {C : World → World → Prop} {hd : Nat → Bool} {L : Array Bool → Act → World → Prop} {Q : Exit → Act → World → Prop} (hq : ∀ pc a w, Qp pc a w → Q (.panic pc) a w) {g : Nat} (hL : ∀ listed a w, L listed a w → wpAny P md ops Q g listed a w) :
    ∀ (f : Nat) (listed : Array Bool) (a : Act) (w : World), wpM Qp C P md ops hd L f listed a w → wpAny P md ops Q (f + g) listed a w
  | 0, listed, a, w, h => by rw [Nat.zero_add]; exact hL _ _ _ (h w (CC.refl w))
  | f + 1, listed, a, w, h => by
    rw [show f + 1 + g = (f + g) + 1 by omega]
    exact ⟨fun h0 => absurd h0 (h w (CC.refl w)).1, fun i hi => wpOp_of_cStep hq (cStep_mono (fun a' w'' h' => wpAny_of_M hq hL f _ a' w'' h'.2) ((h w (CC.refl w)).2 i hi).2)⟩

/-- one value in every later world, each of which it keeps -/
def YieldsM (C : World → World → Prop) (P : Program) (ops : Array Oper) (w : World) (o : Oper) (v : Value) (a : Act) : Prop :=
  (Region.wanted o (yielded ops a.tmps) = true ∧ ∀ w', C w w' → o.quietAt P a (CC w') w' v) ∨
  (Region.wanted o (yielded ops a.tmps) = false ∧ v = undef)

theorem YieldsM.step {Qp : List PanicEntry → Act → World → Prop} {C : World → World → Prop} {i : Nat} {o : Oper} {v : Value} {a : Act} {w w' : World} (hi : ops[i]? = some o) (hy : YieldsM C P ops w o v a) (hw : C w w') {K : Act → World → Prop} (h : ∀ w'', CC w' w'' → K (a.put o.dst v) w'') : cStep P ops Qp i K a w' := by
  unfold cStep
  simp only [hi]
  rcases hy with ⟨hwa, hv⟩ | ⟨hwa, rfl⟩
  · simp only [hwa, if_true]
    have h3 := hv w' hw
    unfold Oper.quietAt at h3
    generalize (execOp a.eval o).run P w' = r at *
    cases r with
    | ok n w2 =>
      cases n <;> simp only [Oper.quietUpon] at h3
      case value u => obtain ⟨rfl, rfl⟩ := h3; exact h _ (CC.refl _)
      case skip => obtain ⟨rfl, rfl⟩ := h3; exact h _ (CC.refl _)
      case enter f args => obtain ⟨rfl, hc⟩ := h3; exact hc.mono fun e w3 ⟨h4, h5⟩ => .inl ⟨v, h4, h _ h5⟩
    | halt x w2 => simp only [Oper.quietUpon] at h3
  · simp only [hwa, Bool.false_eq_true, if_false]; exact h _ (CC.refl _)

theorem YieldsM.later {C : World → World → Prop} (hC : RelC C) {o : Oper} {v : Value} {a : Act} {w w' : World} (hy : YieldsM C P ops w o v a) (hw : C w w') : YieldsM C P ops w' o v a := by
  rcases hy with ⟨h1, h2⟩ | h
  · exact .inl ⟨h1, fun w2 h3 => h2 w2 (hC.trans hw h3)⟩
  · exact .inr h

theorem YieldsM.put {C : World → World → Prop} {o : Oper} {v u : Value} {a : Act} {w : World} {dst : Option Tmp} (hy : YieldsM C P ops w o v a) (hs : ∀ cs b, o.op ≠ .select cs b) (h : ∀ d, dst = some d → d ∉ o.looksAt ops) : YieldsM C P ops w o v (a.put dst u) := by
  unfold YieldsM Oper.quietAt at *
  rw [execOp_put o hs a dst u h, wanted_put o a dst u h]
  exact hy

/-- no operation behind the head comes up before the head is through -/
def TailWaits (md : Region.Mode) (ops : Array Oper) (hd : Nat → Bool) : Prop :=
  ∀ listed : Array Bool, (∀ j oj, ops[j]? = some oj → listed.getD j false = true → ∀ e ∈ oj.after, Region.binds md e = true → listed.getD e.on false = true) → listed.size = ops.size →
    (∃ i, hd i = true ∧ listed.getD i true = false) → ∀ j ∈ Region.ready md ops listed, hd j = true

structure LInv (md : Region.Mode) (ops : Array Oper) (listed : Array Bool) : Prop where
  size : listed.size = ops.size
  closed : ∀ j oj, ops[j]? = some oj → listed.getD j false = true → ∀ e ∈ oj.after, Region.binds md e = true → listed.getD e.on false = true

theorem LInv.set {i : Nat} {listed : Array Bool} (inv : LInv md ops listed) (hi : i ∈ Region.ready md ops listed) : LInv md ops (listed.setIfInBounds i true) := by
  obtain ⟨_, oi, hoi, hall⟩ := mem_ready.1 hi
  refine ⟨by simp [inv.size], fun j oj hj hl e he hb => ?_⟩
  by_cases hij : i = j
  · subst hij
    have : oj = oi := Option.some.inj (hj.symm.trans hoi)
    subst this
    exact getD_set_true (hall e he hb)
  · rw [getD_set_ne false hij] at hl
    exact getD_set_true (inv.closed j oj hj hl e he hb)

/-- a quiet operation that may come up may be taken first -/
theorem wpM_first {Qp : List PanicEntry → Act → World → Prop} (hput : ∀ (i : Nat) (oi : Oper) pc a v w, ops[i]? = some oi → Qp pc (a.put oi.dst v) w → Qp pc a w) {C : World → World → Prop} (hC : RelC C) {hd : Nat → Bool} {L : Array Bool → Act → World → Prop} {i : Nat} {oi : Oper} {v : Value} (hi : ops[i]? = some oi) (hhd : hd i = true) (hsel : ∀ (j : Nat) (o : Oper) cs b, ops[j]? = some o → o.op ≠ .select cs b) (htw : TailWaits md ops hd)
    (hdone : ∀ listed a w, L listed a w → ∀ j ∈ Region.ready md ops listed, hd j = false) :
    ∀ (f : Nat) (listed : Array Bool) (a : Act) (w : World), LInv md ops listed →
      (∀ j oj, ops[j]? = some oj → j ≠ i → listed.getD j true = false → (∀ e ∈ oj.after, Region.binds md e = true → e.on ≠ i) → oi.apart ops oj = true) →
      i ∈ Region.ready md ops listed → YieldsM C P ops w oi v a →
      wpM Qp C P md ops hd L f (listed.setIfInBounds i true) (a.put oi.dst v) w → wpM Qp C P md ops hd L (f + 1) listed a w := by
  intro f
  induction f with
  | zero =>
    intro listed a w inv _ hr hy H w' hw'
    have hun := (mem_ready.1 hr).1
    refine ⟨fun h => (by rw [h] at hr; cases hr), fun j hj => ?_⟩
    have hjh := htw listed inv.closed inv.size ⟨i, hhd, hun⟩ j hj
    refine ⟨hjh, ?_⟩
    by_cases hji : j = i
    · subst hji
      exact hy.step hi (hC.cc hw') fun w'' hw'' => ⟨hC.cc hw'', wpM_stable H (CC.trans hw' hw'')⟩
    · have := hdone _ _ _ (H w (CC.refl w)) j (ready_mono hj hji)
      rw [hjh] at this; cases this
  | succ f ih =>
    intro listed a w inv hfree hr hy H w' hw'
    have hun := (mem_ready.1 hr).1
    refine ⟨fun h => (by rw [h] at hr; cases hr), fun j hj => ?_⟩
    have hjh := htw listed inv.closed inv.size ⟨i, hhd, hun⟩ j hj
    refine ⟨hjh, ?_⟩
    by_cases hji : j = i
    · subst hji
      exact hy.step hi (hC.cc hw') fun w'' hw'' => ⟨hC.cc hw'', wpM_stable H (CC.trans hw' hw'')⟩
    · have h1 := ((H w' hw').2 j (ready_mono hj hji)).2
      obtain ⟨hjun, oj, hoj, hall⟩ := mem_ready.1 hj
      have hnot : ∀ e ∈ oj.after, Region.binds md e = true → e.on ≠ i := fun e he hb heq => by
        have h1 := hall e he hb
        rw [heq, getD_both hun] at h1
        cases h1
      have hap := hfree j oj hoj hji hjun hnot
      have h2 := cStep_put hoj hap (fun cs b => hsel j oj cs b hoj) (fun pc w => hput i oi pc a v w hi) h1
      have hfree' : ∀ k ok, ops[k]? = some ok → k ≠ i → (listed.setIfInBounds j true).getD k true = false →
          (∀ e ∈ ok.after, Region.binds md e = true → e.on ≠ i) → oi.apart ops ok = true := fun k ok hk hki hun hno => by
        refine hfree k ok hk hki ?_ hno
        by_cases hjk : j = k
        · subst hjk; exact hjun
        · rw [getD_set_ne true hjk] at hun; exact hun
      refine cStep_mono (fun a' w'' h3 => ?_) h2
      obtain ⟨⟨u, hu⟩, hcc, h4⟩ := h3
      refine ⟨hcc, ih (listed.setIfInBounds j true) a' w'' (inv.set hj) hfree' (ready_mono hr (Ne.symm hji)) ?_ ?_⟩
      · rw [hu]
        exact ((hy.later hC (hC.cc hw')).later hC hcc).put (fun cs b => hsel i oi cs b hi) (Oper.apart_spec hap).2.2
      · rw [Array.setIfInBounds_comm _ _ hji]
        exact h4
end
end Go.Eng

/-! part Snd13b -/
namespace Go.Eng
open Go.RowKit

section
variable {P : Program} {md : Region.Mode} {ops : Array Oper}

theorem wpAny_of_seqL {Q : Exit → Act → World → Prop} : ∀ (l : List Nat) (listed : Array Bool) (a : Act) (w : World), seqL md ops l listed = true → wpOps P ops Q l a w → wpAny P md ops Q l.length listed a w
  | [], _, _, _, hB, h => ⟨by simpa [seqL] using hB, h⟩
  | k :: l, listed, a, w, hB, h => by
    simp only [List.length_cons, seqL, Bool.and_eq_true, decide_eq_true_eq] at hB
    refine ⟨fun h1 => (by rw [hB.1] at h1; cases h1), fun i hi => ?_⟩
    rw [hB.1] at hi
    have hik : i = k := by simpa using hi
    subst hik
    rw [wpOps_cons] at h
    exact wpOp_mono (fun a' w' h' => wpAny_of_seqL l _ a' w' hB.2 h') h

def Dep (md : Region.Mode) (ops : Array Oper) (listed : Array Bool) (t : Nat) : Prop := ∀ i, Region.waitsFor md ops t i = true → listed.getD i false = true

theorem LInv.dep {listed : Array Bool} (inv : LInv md ops listed) {t : Nat} (h : listed.getD t false = true) : Dep md ops listed t := by
  intro i hi
  obtain ⟨oj, hoj, e, he, hb, hon⟩ := Region.waitsFor_spec hi
  rw [← hon]
  exact inv.closed t oj hoj h e he hb

theorem ready_dep {listed : Array Bool} {t : Nat} (h : t ∈ Region.ready md ops listed) : Dep md ops listed t := by
  intro i hi
  obtain ⟨_, o, ho, hall⟩ := mem_ready.1 h
  obtain ⟨oj, hoj, e, he, hb, hon⟩ := Region.waitsFor_spec hi
  have : oj = o := Option.some.inj (hoj.symm.trans ho)
  subst this
  rw [← hon]
  exact hall e he hb

theorem chain_dep {listed : Array Bool} (inv : LInv md ops listed) : ∀ (r : List Nat) (t : Nat), chainL md ops (t :: r) = true → ∀ j ∈ t :: r, Dep md ops listed j → Dep md ops listed t
  | [], t, _, j, hj, h => by
    have : j = t := by simpa using hj
    rw [← this]; exact h
  | t' :: r, t, hc, j, hj, h => by
    simp only [chainL, Bool.and_eq_true] at hc
    rcases List.mem_cons.1 hj with rfl | hj
    · exact h
    · exact inv.dep (chain_dep inv r t' hc.2 j hj h t hc.1)

theorem sink_all {listed : Array Bool} (inv : LInv md ops listed) {t0 : Nat} (h0 : Dep md ops listed t0) : ∀ (l : List Nat), sinkL md ops t0 l = true → ∀ i ∈ l, listed.getD i false = true
  | [], _, i, hi => by cases hi
  | k :: r, hs, i, hi => by
    simp only [sinkL, Bool.and_eq_true] at hs
    have ih := sink_all inv h0 r hs.2
    rcases List.mem_cons.1 hi with rfl | hi
    · obtain ⟨j, hj, hw⟩ := List.any_eq_true.1 hs.1
      rcases List.mem_cons.1 hj with rfl | hj
      · exact h0 _ hw
      · exact inv.dep (ih j hj) _ hw
    · exact ih i hi

theorem tailWaits_of {π τ : List Nat} (hcov : (List.range ops.size).all (fun i => π.contains i || τ.contains i) = true)
    (ht : tailB md ops π τ = true) : TailWaits md ops (fun i => !τ.contains i) := by
  intro listed hcl hsz ⟨i, hhd, hun⟩ j hj
  have inv : LInv md ops listed := ⟨hsz, hcl⟩
  cases hjt : τ.contains j with
  | false => show (!τ.contains j) = true; rw [hjt]; rfl
  | true =>
    exfalso
    cases τ with
    | nil => simp at hjt
    | cons t0 r =>
      simp only [tailB, Bool.and_eq_true] at ht
      have h0 := chain_dep inv r t0 ht.2 j (by simpa using hjt) (ready_dep hj)
      have hi : i < ops.size := by
        rw [← hsz]
        rcases Nat.lt_or_ge i listed.size with h | h
        · exact h
        · simp [Array.getElem?_eq_none h] at hun
      have hmem := List.all_eq_true.1 hcov i (List.mem_range.2 hi)
      have hnt : (t0 :: r).contains i = false := by simpa using hhd
      rw [hnt, Bool.or_false] at hmem
      have := sink_all inv h0 π ht.1 i (by simpa using hmem)
      rw [getD_both hun] at this
      cases this

/-- the walk of the head in its one order -/
def wpC (Qp : List PanicEntry → Act → World → Prop) (C : World → World → Prop) (P : Program) (ops : Array Oper) (ms : List Nat) (K : Act → World → Prop) : List Nat → Act → World → Prop
  | [], a, w => ∀ w', CC w w' → K a w'
  | k :: r, a, w => match pairOf k with
    | some (i, j) => (∀ w', CC w w' → cStep P ops Qp i (fun a' w'' => C w' w'' ∧ ∀ w2, CC w'' w2 → cStep P ops Qp j (fun a2 w3 => C w2 w3 ∧ wpC Qp C P ops ms K r a2 w3) a' w2) a w') ∧
        (∀ w', CC w w' → cStep P ops Qp j (fun a' w'' => C w' w'' ∧ ∀ w2, CC w'' w2 → cStep P ops Qp i (fun a2 w3 => C w2 w3 ∧ wpC Qp C P ops ms K r a2 w3) a' w2) a w')
    | none => match ms.contains k with
      | true => ∀ w', CC w w' → cStep P ops Qp k (fun a' w'' => C w' w'' ∧ wpC Qp C P ops ms K r a' w'') a w'
      | false => ∃ oi v, ops[k]? = some oi ∧ YieldsM C P ops w oi v a ∧ wpC Qp C P ops ms K r (a.put oi.dst v) w

theorem wpM_of_C {Qp : List PanicEntry → Act → World → Prop} (hput : ∀ (i : Nat) (oi : Oper) pc a v w, ops[i]? = some oi → Qp pc (a.put oi.dst v) w → Qp pc a w) {C : World → World → Prop} (hC : RelC C) {ms τ : List Nat} {K : Act → World → Prop} (hsel : Region.noSelect ops = true) (htw : TailWaits md ops (fun i => !τ.contains i)) :
    ∀ (π : List Nat) (listed : Array Bool) (a : Act) (w : World), LInv md ops listed → (∀ i ∈ flatP π, τ.contains i = false) → mixFrom md ops ms τ π listed = true → wpC Qp C P ops ms K π a w →
      wpM Qp C P md ops (fun i => !τ.contains i) (fun listed' a' w' => seqL md ops τ listed' = true ∧ K a' w') (flatP π).length listed a w
  | [], listed, a, w, _, _, hB, h => fun w' hw' => ⟨hB, h w' hw'⟩
  | k :: r, listed, a, w, inv, hτ, hB, h => by
    cases hpk : pairOf k with
    | some ij =>
      obtain ⟨i, j⟩ := ij
      simp only [mixFrom, hpk, Bool.and_eq_true, decide_eq_true_eq] at hB
      obtain ⟨⟨r1, r2, r3⟩, h2⟩ := hB
      simp only [wpC, hpk] at h
      have hfl : flatP (k :: r) = i :: j :: flatP r := by simp only [flatP, hpk]
      rw [hfl] at hτ ⊢
      have hi := hτ i (by simp)
      have hj := hτ j (by simp)
      have hτ' : ∀ i ∈ flatP r, τ.contains i = false := fun i hi => hτ i (by simp [hi])
      have hir : i ∈ Region.ready md ops listed := by rw [r1]; simp
      have hjr : j ∈ Region.ready md ops listed := by rw [r1]; simp
      have one : ∀ i j : Nat, τ.contains j = false → i ∈ Region.ready md ops listed → Region.ready md ops (listed.setIfInBounds i true) = [j] → mixFrom md ops ms τ r ((listed.setIfInBounds i true).setIfInBounds j true) = true →
          (∀ w', CC w w' → cStep P ops Qp i (fun a' w'' => C w' w'' ∧ ∀ w2, CC w'' w2 → cStep P ops Qp j (fun a2 w3 => C w2 w3 ∧ wpC Qp C P ops ms K r a2 w3) a' w2) a w') →
          ∀ w', CC w w' → cStep P ops Qp i (fun a' w'' => C w' w'' ∧ wpM Qp C P md ops (fun i => !τ.contains i) (fun listed' a' w' => seqL md ops τ listed' = true ∧ K a' w') ((flatP r).length + 1) (listed.setIfInBounds i true) a' w'') a w' := by
        intro i j hj hir hr2 hm hh w' hw'
        refine cStep_mono (fun a' w'' h3 => ⟨h3.1, fun w2 hw2 => ⟨by rw [hr2]; simp, fun x hx => ?_⟩⟩) (hh w' hw')
        rw [hr2] at hx
        have hxj : x = j := by simpa using hx
        subst hxj
        have inv1 := inv.set hir
        refine ⟨by simp only [hj]; rfl, cStep_mono (fun a2 w3 h4 => ⟨h4.1, ?_⟩) (h3.2 w2 hw2)⟩
        exact wpM_of_C hput hC hsel htw r _ a2 w3 (inv1.set (by rw [hr2]; simp)) hτ' hm h4.2
      have hcomm : (listed.setIfInBounds j true).setIfInBounds i true = (listed.setIfInBounds i true).setIfInBounds j true := by
        by_cases hij : i = j
        · subst hij; rfl
        · exact Array.setIfInBounds_comm _ _ (Ne.symm hij)
      have o1 := one i j hj hir r2 h2 h.1
      have o2 := one j i hi hjr r3 (by rw [hcomm]; exact h2) h.2
      show wpM Qp C P md ops _ _ ((flatP r).length + 1 + 1) listed a w
      intro w' hw'
      refine ⟨by rw [r1]; simp, fun x hx => ?_⟩
      rw [r1] at hx
      rcases List.mem_cons.1 hx with rfl | hx
      · exact ⟨by simp only [hi]; rfl, o1 w' hw'⟩
      · have hxj : x = j := by simpa using hx
        subst hxj
        exact ⟨by simp only [hj]; rfl, o2 w' hw'⟩
    | none =>
    have hfl : flatP (k :: r) = k :: flatP r := by simp only [flatP, hpk]
    rw [hfl] at hτ ⊢
    simp only [mixFrom, hpk, Bool.and_eq_true] at hB
    obtain ⟨h1, h2⟩ := hB
    have hk := hτ k (by simp)
    have hτ' : ∀ i ∈ flatP r, τ.contains i = false := fun i hi => hτ i (by simp [hi])
    simp only [wpC, hpk] at h
    cases hm : ms.contains k with
    | true =>
      simp only [hm, decide_eq_true_eq] at h1 h
      have hr : k ∈ Region.ready md ops listed := by rw [h1]; simp
      intro w' hw'
      refine ⟨by rw [h1]; simp, fun i hi => ?_⟩
      rw [h1] at hi
      have hik : i = k := by simpa using hi
      subst hik
      refine ⟨by simp only [hk]; rfl, cStep_mono (fun a' w'' h3 => ⟨h3.1, ?_⟩) (h w' hw')⟩
      exact wpM_of_C hput hC hsel htw r _ a' w'' (inv.set hr) hτ' h2 h3.2
    | false =>
      simp only [hm, Bool.and_eq_true] at h1 h
      obtain ⟨oi, v, hoi, hy, hK⟩ := h
      have hr : k ∈ Region.ready md ops listed := by simpa using h1.1
      exact wpM_first hput hC hoi (by simp only [hk]; rfl) (Region.noSelect_spec hsel) htw (fun listed' a' w' hL j hj => by
        have hL := hL.1
        cases τ with
        | nil => simp only [seqL, List.isEmpty_iff] at hL; rw [hL] at hj; cases hj
        | cons t0 t =>
          simp only [seqL, Bool.and_eq_true, decide_eq_true_eq] at hL
          rw [hL.1] at hj
          have : j = t0 := by simpa using hj
          subst this
          simp) (flatP r).length listed a w inv (Region.free_spec hoi h1.2) hr hy
        (wpM_of_C hput hC hsel htw r _ _ w (inv.set hr) hτ' h2 hK)

/-- a region that draws its order: quiet operations and a forced order of those that make memory, then a forced tail -/
theorem wpAny_mixed {Qp : List PanicEntry → Act → World → Prop} (hput : ∀ (i : Nat) (oi : Oper) pc a v w, ops[i]? = some oi → Qp pc (a.put oi.dst v) w → Qp pc a w) {C : World → World → Prop} (hC : RelC C) {Q : Exit → Act → World → Prop} (hq : ∀ pc a w, Qp pc a w → Q (.panic pc) a w) {a : Act} {w : World} (π ms τ : List Nat) (hB : mixB .any ops π ms τ = true)
    (h : wpC Qp C P ops ms (fun a' w' => wpOps P ops Q τ a' w') π a w) : wpAny P .any ops Q ops.size (Array.replicate ops.size false) a w := by
  simp only [mixB, Bool.and_eq_true] at hB
  obtain ⟨⟨⟨⟨⟨hsel, hcov⟩, hdis⟩, ht⟩, hlen⟩, hmix⟩ := hB
  have hlen := Nat.eq_of_beq_eq_true hlen
  have inv0 : LInv .any ops (Array.replicate ops.size false) :=
    ⟨by simp, fun j oj _ hl => (by rw [getD_replicate_false] at hl; cases hl)⟩
  have H := wpM_of_C (P := P) (md := .any) hput hC hsel (tailWaits_of hcov ht) π _ a _ inv0 (fun i hi => by simpa using List.all_eq_true.1 hdis i hi) hmix h
  have := wpAny_of_M (Q := Q) hq (g := τ.length) (fun listed a' w' hL => wpAny_of_seqL τ listed a' w' hL.1 hL.2) _ _ _ _ H
  rw [hlen] at this
  exact this
end
end Go.Eng

/-! part Snd14 -/
namespace Go.Eng
open Go.RowKit
open Classical

section
variable {cx : Ctx} {cf : Cfg} {ops : Array Oper}

theorem blt_lt' {a b : Nat} (h : Nat.blt a b = true) : a < b := Nat.le_of_ble_eq_true h

theorem relaxE_look (L : List (Nat × Bool)) : ∀ (env : List Ent) (d : Nat), lookE (relaxE L env) d = (lookE env d).map (fun e => match subL e.cond L with | true => ⟨e.slot, [], e.sv⟩ | false => e)
  | [], d => rfl
  | ⟨s, L', v⟩ :: r, d => by
    simp only [relaxE, lookE]
    cases hs : subL L' L with
    | true =>
      simp only
      cases hb : Nat.beq s d with
      | true => simp [hs]
      | false => simp only [relaxE_look L r d]
    | false =>
      simp only
      cases hb : Nat.beq s d with
      | true => simp [hs]
      | false => simp only [relaxE_look L r d]

theorem relax_env {st : St} {ρ : Nat → Value} {a : Act} {L : List (Nat × Bool)} (he : EnvOk ops st ρ a) (hL : holds st.bs L) : EnvOk ops (relax st L) ρ a := by
  obtain ⟨n, env, ch, bs, ids⟩ := st
  simp only [relax]
  have key : ∀ d e, lookE (relaxE L env) d = some e → ∃ e0, lookE env d = some e0 ∧ e.sv = e0.sv ∧ (e = e0 ∨ (e.cond = [] ∧ holds bs e0.cond)) := by
    intro d e h
    rw [relaxE_look] at h
    cases hl : lookE env d with
    | none => simp [hl] at h
    | some e0 =>
      simp only [hl, Option.map_some, Option.some.injEq] at h
      refine ⟨e0, rfl, ?_⟩
      cases hs : subL e0.cond L with
      | true => simp only [hs] at h; subst h; exact ⟨rfl, .inr ⟨rfl, subL_sound hs hL⟩⟩
      | false => simp only [hs] at h; subst h; exact ⟨rfl, .inl rfl⟩
  refine ⟨he.size, fun d e h hj => ?_, fun d e h hh => ?_, fun d e h => ?_, he.bent, he.bcl⟩
  · obtain ⟨e0, h0, hs, hor⟩ := key d e h
    have := he.ent d e0 h0 (by rw [← hs]; exact hj)
    rcases hor with rfl | ⟨hc, hh⟩
    · exact this
    · rw [this, hc, hs, if_pos hh, if_pos (show holds bs [] from trivial)]
  · obtain ⟨e0, h0, hs, hor⟩ := key d e h
    rw [hs]
    rcases hor with rfl | ⟨hc, hh'⟩
    · exact he.ok d e h0 hh
    · exact he.ok d e0 h0 hh'
  · obtain ⟨e0, h0, hs, hor⟩ := key d e h
    rcases hor with rfl | ⟨hc, hh'⟩
    · exact he.cl d e h0
    · rw [hc]; intro p hp; simp at hp

theorem relax_mem {st : St} {ρ : Nat → Value} {S : Nat → Prop} {w : World} {L : List (Nat × Bool)} (hm : MemOk st ρ S w) : MemOk (relax st L) ρ S w := by
  obtain ⟨n, env, ch, bs, ids⟩ := st
  exact ⟨hm.ok, hm.cells, hm.sep, hm.out, hm.lt, hm.ccl⟩

/-! ### in a round, or not -/
abbrev FF (r : Option Nat) : Fence := { Fence.wide with round := r }
theorem callsFF {r : Option Nat} {n : Nat} {P : Program} {f : FuncId} {args : Array Value} {w : World} {R : Ending → World → Prop} (h : Calls P f args w R) : CallsIn (FF r) n P f args w R := (callsIn_wide (n := n)).2 h
theorem rowsFF {r : Option Nat} {n : Nat} {P : Program} {row : String} {args : Array Value} {w : World} {R : Value → World → Prop} (h : Rows P row args w R) : RowsIn (FF r) n P row args w R :=
  fun c cs _ => let ⟨v, w', h1, h2⟩ := h c cs; ⟨v, w', h1, stepsIn_wide.2 h2⟩
theorem roundFF {r : Option Nat} {n m : Nat} {P : Program} {l : Nat} {f : FuncId} {tmps : Array Value} {x y : Code} {w : World} {R : Ending → World → Prop} (h : RoundIn Fence.wide m P l f tmps x y w R) : RoundIn (FF r) n P l f tmps x y w R :=
  ⟨trivial, fun c cs _ => h.2 c cs (room_wide _)⟩

theorem opIn {r : Option Nat} {n : Nat} {P : Program} {o : Oper} {a : Act} {w : World} {next : Act → World → Prop} {Q : Exit → Act → World → Prop} (hd : ∀ c, o.op ≠ .defer c) (h : o.wp P a w next Q) : o.wpIn (FF r) n P a w next Q := by
  refine ⟨fun _ _ => trivial, ?_⟩
  rw [Oper.semAt_eq _ _ _ hd]
  unfold Oper.wp at h
  generalize (execOp a.eval o).run P w = res at h ⊢
  cases res with
  | ok x w' =>
    cases x with
    | value v => exact h
    | skip => exact h
    | defer d => exact h
    | enter f args => exact ⟨fun h0 => by simp [FF, Fence.wide] at h0, callsFF h⟩
    | row row args => exact ⟨fun h0 => by simp [FF, Fence.wide] at h0, rowsFF h⟩
    | _ => exact h.elim
  | halt x w' =>
    cases x with
    | panic v => exact h
    | _ => exact h.elim

theorem noDef_get : ∀ {l : List Oper}, noDefL l = true → ∀ (i : Nat) (o : Oper), l[i]? = some o → ∀ c, o.op ≠ .defer c
  | [], _, i, o, h, c => by simp at h
  | x :: l, hd, i, o, h, c => by
    have h1 : (∀ c, x.op ≠ .defer c) ∧ noDefL l = true := by
      unfold noDefL at hd
      split at hd
      · cases hd
      · rename_i h2; exact ⟨fun c e => h2 c e, hd⟩
    cases i with
    | zero => simp only [List.getElem?_cons_zero, Option.some.injEq] at h; subst h; exact h1.1 c
    | succ i => exact noDef_get h1.2 i o (by simpa using h) c

theorem anyIn_of {r : Option Nat} {n : Nat} {P : Program} {md : Region.Mode} {ops : Array Oper} {Q : Exit → Act → World → Prop} (hno : ¬ LetsOut Q) (hd : noDefL ops.toList = true) :
    ∀ (f : Nat) (listed : Array Bool) (a : Act) (w : World), wpAny P md ops Q f listed a w → wpAnyIn (FF r) n P md ops Q f listed a w
  | 0, _, _, _, h => h
  | f + 1, listed, a, w, h => ⟨h.1, fun i hi => by
    have h2 := h.2 i hi
    unfold wpOp at h2
    unfold wpOpIn
    cases ho : ops[i]? with
    | none => simp only [ho] at h2 ⊢; exact anyIn_of hno hd f _ a w h2
    | some o =>
      simp only [ho] at h2 ⊢
      split
      · rename_i hw
        rw [if_pos hw] at h2
        rcases h2 with h2 | h2
        · exact opIn (noDef_get hd i o (by simpa using ho)) (Oper.wp_mono (fun a' w' hh => anyIn_of hno hd f _ a' w' hh) h2)
        · exact absurd h2.2 hno
      · rename_i hw
        rw [if_neg hw] at h2
        exact ⟨fun _ _ => trivial, anyIn_of hno hd f _ _ w h2⟩⟩

/-- a region that draws, met by whatever way -/
theorem region_draw {r : Option Nat} {n : Nat} {P : Program} {id : Nat} {ops : Array Oper} {Q : Exit → Act → World → Prop} {a : Act} {w : World} (hm : P.follows .mixedOrders = true) (hd : noDefL ops.toList = true)
    (h : wpAny P .any ops (fun e a w => (e = .normal ∨ ∃ pc, e = .panic pc) ∧ Q e a w) ops.size (Array.replicate ops.size false) a { w with drawn := w.drawn + 1 }) : (Code.region id ops true).wpIn (FF r) n P Q a w :=
  wpIn_mono (wpIn_region_any hm (anyIn_of (by rintro ⟨a, w, h, _⟩; rcases h with h | ⟨_, h⟩ <;> cases h) hd _ _ _ _ h)) (fun e a w ⟨_, h2⟩ => h2)

theorem lop_nd {cf : Cfg} {tt : TT} {st : St} {c : Call} {K : St → SV → Prop} {Kp : List PanicEntry → St → Prop} (h : lop cf tt st (.defer c) K Kp) : False := by simp [lop, qop] at h
theorem qop_nd {cf : Cfg} {tt : TT} {st : St} {L : List (Nat × Bool)} {c : Call} {K : St → SV → Prop} (h : qop cf tt st L (.defer c) K) : False := by simp [qop] at h

/-- a round has gone by -/
theorem InvD.yielded {cx : Ctx} {cf : Cfg} (hcx : CxOk cf cx) {st st' : St} {ρ : Nat → Value} {S : Nat → Prop} {w w' : World} {dl : List Deferred} {id l k : Nat} {go : Bool} {U U' : Nat → Prop} (h : InvD cx st ρ S w dl) (hyN : 0 < cf.yN)
    (hid : id < st.ch.length) (hc : chGet st.ch id = .yk l true k) (hU : ∀ b, U b → b < w.heap.size ∧ ∀ i, i < st.ch.length → ownBlk (chGet st.ch i) (ρ i) ≠ some b) (hS : ∀ b, S b → cx.G b ∨ ¬ U b) (hl : l = cx.l)
    (hR : RoundR cx.G U w w') (hU' : ∀ b, U' b → b < w'.heap.size ∧ (U b ∨ w.heap.size ≤ b)) (hJ : cx.J go U' (k + 1) w')
    (hch : st'.ch = setCh st.ch id (.yk l go (k + 1))) (hbs : st'.bs = st.bs) : InvD cx st' ρ S w' dl := by
  have hSk : ∀ b, S b → w'.heap[b]? = w.heap[b]? := fun b hb => by
    rcases hS b hb with h1 | h1
    · exact hR.keep b h1
    · exact hR.oth b (h.inv.mem.lt b hb) h1
  have hok : ∀ i b, i < st.ch.length → ownBlk (chGet st.ch i) (ρ i) = some b → w'.heap[b]? = w.heap[b]? := fun i b hi e => hR.oth b (ownBlk_lt (h.inv.mem.ok i hi) e) (fun hb => (hU b hb).2 i hi e)
  have hrel : ChRel st.ch (setCh st.ch id (.yk l go (k + 1))) := ⟨by rw [setCh_length]; exact Nat.le_refl _, fun i hi n hn => by
    rw [chGet_setCh _ _ _ _ hid] at hn ⊢
    split at hn
    · simp [lenOf] at hn
    · rename_i e; rw [if_neg e]; exact ⟨n, hn, Nat.le_refl _, rfl⟩⟩
  have hown : ∀ i v, ownBlk (chGet st'.ch i) v = ownBlk (chGet st.ch i) v := fun i v => by
    rw [hch, chGet_setCh _ _ _ _ hid]
    split
    · rename_i e; rw [e, hc]; rfl
    · rfl
  have hlen : st'.ch.length = st.ch.length := by rw [hch, setCh_length]
  have hm : MemOk st' ρ S w' := h.inv.mem.change hid hch hbs hSk (fun i b hi _ e => hok i b hi e) trivial (by simp [cellsIn, svOkL]) hrel (fun b e => by simp [ownBlk] at e) rfl hR.size
  refine ⟨⟨hm, fun b hb => ?_, Nat.le_trans h.inv.size hR.size, hR.os.trans h.inv.os, hR.tape.trans h.inv.tape, hR.output.trans h.inv.output, by rw [hlen]; exact h.inv.kle, h.inv.anch, fun i l' go' n' e => ?_, fun i j li gi ni lj gj nj e1 e2 => ?_, h.inv.sf⟩, ?_⟩
  · obtain ⟨h1, h2, h3⟩ := h.inv.frm b hb
    exact ⟨h1, (hR.keep b (hcx.FG hyN b hb)).trans h2, fun i hi => by rw [hown]; exact h3 i (by rw [← hlen]; exact hi)⟩
  · rw [hch, chGet_setCh _ _ _ _ hid] at e
    split at e
    · simp only [Chunk.yk.injEq] at e
      obtain ⟨rfl, rfl, rfl⟩ := e
      refine ⟨hl, U', hJ, fun b hb => ⟨(hU' b hb).1, fun i hi e => ?_⟩, fun b hb => ?_⟩
      · rw [hown] at e
        rw [hlen] at hi
        rcases (hU' b hb).2 with h1 | h1
        · exact (hU b h1).2 i hi e
        · have := ownBlk_lt (h.inv.mem.ok i hi) e; omega
      · rcases hS b hb with h1 | h1
        · exact .inl h1
        · refine .inr fun h2 => ?_
          rcases (hU' b h2).2 with h3 | h3
          · exact h1 h3
          · have := h.inv.mem.lt b hb; omega
    · rename_i hne; exact absurd (h.inv.one i id _ _ _ _ _ _ e hc) hne
  · have idx : ∀ i li gi ni, chGet st'.ch i = .yk li gi ni → i = id := by
      intro i li gi ni g
      rw [hch, chGet_setCh _ _ _ _ hid] at g
      split at g
      · assumption
      · exact h.inv.one i id _ _ _ _ _ _ g hc
    rw [idx _ _ _ _ e1, idx _ _ _ _ e2]
  · obtain ⟨Ds, h1, _, h0, h2⟩ := h.df
    have hnil : Ds = [] := by
      cases Ds with
      | nil => rfl
      | cons a r => exact absurd hc (h0 (by simp) id l true k)
    subst hnil
    exact ⟨[], h1, List.nodup_nil, fun hne => absurd rfl hne, fun D hD => by simp at hD⟩

theorem getVs_v : ∀ (vs : List Value), (vs.map SV.v).map (fun s => s) = vs.map SV.v := fun vs => by simp

theorem rops_sound (hcf : CfgOk cf) (hcx : CxOk cf cx) {r0 : Option Nat} {n : Nat} {K : St → Prop} {Kp : List PanicEntry → St → Prop} {Q : Exit → Act → World → Prop} (hQ : ∀ st' a' w', K st' → Sat cx st' a' w' → Q .normal a' w') (hQp : ∀ ch st' a' w', Kp ch st' → Sat cx st' a' w' → Q (.panic ch) a' w') :
    ∀ (l : List Oper) (is : List Nat) (st : St) (ρ : Nat → Value) (S : Nat → Prop) (w : World) (a : Act), (∀ (j i : Nat) (o : Oper), is[j]? = some i → l[j]? = some o → ops[i]? = some o) →
      EnvOk ops st ρ a → InvD cx st ρ S w a.defers → rops cf cf.tt l is st K Kp → wpListIn (FF r0) n cf.P ops Q l a w
  | [], is, st, ρ, S, w, a, _, he, hinv, h => by
    simp only [rops] at h
    obtain ⟨st', ⟨hK, hl⟩, h1, h2, h3, h4⟩ := condOut_len hinv.inv.mem he h
    have := hinv.mv h2 hl
    exact hQ st' a w hK ⟨ρ, S, h1, h4, this.inv, this.df⟩
  | o :: r, [], st, ρ, S, w, a, _, he, hinv, h => by simp [rops] at h
  | o :: r, i :: is, st, ρ, S, w, a, hl, he, hinv, h => by
    have hoi : ops[i]? = some o := hl 0 i o rfl rfl
    have hl' : ∀ (j i : Nat) (o : Oper), is[j]? = some i → r[j]? = some o → ops[i]? = some o := fun j i o h1 h2 => hl (j + 1) i o (by simpa using h1) (by simpa using h2)
    have hst := hcx.stab
    simp only [rops] at h
    split at h
    · exact h.elim
    · -- no guard
      rename_i hc
      obtain ⟨hcl, hw⟩ := cond_wanted he hc
      simp only [wpListIn]
      rw [if_pos (hw.2 trivial)]
      split at h
      · -- a round
        rename_i l vs hy
        obtain ⟨id, k, hch, hid, hk, hvs, hT, hF⟩ := h
        have hid := blt_lt' hid
        have hyo : ∃ t args ts, o.op = .call ⟨.value (.tmp t), args, ts⟩ ∧ getV st [] (.tmp t) = some (.v (.func (.yield l) #[] #[])) ∧ getVs st [] args.toList = some vs := by
          unfold yOf at hy
          split at hy
          · rename_i t args ts hop
            split at hy
            · rename_i l' c1 c2 vs' g1 g2
              split at hy
              · rename_i q1 q2
                simp only [Option.some.injEq, Prod.mk.injEq] at hy
                obtain ⟨rfl, rfl⟩ := hy
                have z1 : c1 = #[] := by apply Array.toList_inj.1; simpa using q1
                have z2 : c2 = #[] := by apply Array.toList_inj.1; simpa using q2
                subst z1 z2
                exact ⟨t, args, ts, hop, g1, g2⟩
              · cases hy
            · cases hy
          · cases hy
        obtain ⟨t, args, ts, hop, hgt, hgv⟩ := hyo
        obtain ⟨hl1, U, hJ, hU, hS⟩ := hinv.inv.yl id l true k hch
        obtain ⟨fn, tmps, assign, body, hrun, hround⟩ := hcx.yield U k w hJ hk
        obtain ⟨e1, _⟩ := getV_sound he (L := []) trivial hgt
        obtain ⟨e2, _⟩ := getVs_sound he (L := []) trivial _ _ hgv
        have hargs : args.map a.eval = (cf.yv k).toArray := by
          apply Array.toList_inj.1
          rw [Array.toList_map, e2, hvs ρ]
        have hexec : (execOp a.eval o).run cf.P w = .ok (.round cx.l fn tmps assign body) w := by
          simp only [den] at e1
          rw [← hl1] at hrun ⊢
          simp [execOp, hop, resolve, e1, Deferred.ofValue, invoke, hargs, hrun]
        refine ⟨fun _ _ => trivial, ?_⟩
        rw [Oper.semAt_eq _ _ _ (by rw [hop]; intro c; simp), hexec]
        refine ⟨fun h0 => by simp [FF, Fence.wide] at h0, (roundFF hround).mono fun e w' ⟨hR, U', hU', hor⟩ => ?_⟩
        have fin : ∀ (go : Bool), cx.J go U' (k + 1) w' → withCh st id (.yk l go (k + 1)) (fun st' => putK st' i o [] (.v (.bool go)) (fun st'' => rops cf cf.tt r is st'' K Kp)) → wpListIn (FF r0) n cf.P ops Q r (a.put o.dst (.bool go)) w' := by
          intro go hJ' hK
          obtain ⟨st1, hK1, hch1, hbs1, henv1, hn1⟩ := withCh_sound hK
          have hi1 := hinv.yielded hcx (by omega) hid hch hU hS hl1 hR hU' hJ' hch1 hbs1
          have hrel : ChRel st.ch st1.ch := by
            rw [hch1]
            exact ⟨by rw [setCh_length]; exact Nat.le_refl _, fun i hi n hn => by
              rw [chGet_setCh _ _ _ _ hid] at hn ⊢
              split at hn
              · simp [lenOf] at hn
              · rename_i e; rw [if_neg e]; exact ⟨n, hn, Nat.le_refl _, rfl⟩⟩
          have he1 := he.rel (st' := st1) (ρ' := ρ) hn1 henv1 hbs1 hrel (fun _ _ => rfl)
          obtain ⟨st2, ⟨h2, hch2⟩, he2, hm2, hn2⟩ := putK_len hi1.inv.mem he1 (fun _ => by simp [svOk]) (fun p hp => by simp at hp) hoi hK1
          rw [if_pos (show holds st1.bs [] from trivial)] at he2
          refine rops_sound hcf hcx hQ hQp r is st2 ρ S w' _ hl' he2 ?_ h2
          rw [put_defers]; exact hi1.mv hm2 (OwnEq.of hch2)
        rcases hor with ⟨rfl, hJ'⟩ | ⟨rfl, hJ'⟩
        · exact fin true hJ' hT
        · exact fin false hJ' hF
      · refine opIn (fun c e => by rw [e] at h; exact lop_nd h) (lop_sound hcf hinv.inv.mem he h _ _ (fun st1 s ρ1 S1 w1 h1 hadv hs => ?_) (fun pc st1 ρ1 S1 w1 h1 hadv => ?_))
        rotate_left
        · have he1 := he.rel hadv.n hadv.env hadv.bs hadv.rel hadv.old
          obtain ⟨st', ⟨hK, hl⟩, g1, g2, g3, g4⟩ := condOut_len hadv.mem he1 h1
          have := (hinv.adv hst hadv).mv g2 hl
          exact hQp pc st' a w1 hK ⟨ρ1, S1, g1, g4, this.inv, this.df⟩
        have he1 := he.rel hadv.n hadv.env hadv.bs hadv.rel hadv.old
        obtain ⟨st2, ⟨h2, hch2⟩, he2, hm2, hn2⟩ := putK_len hadv.mem he1 (fun _ => hs) (fun p hp => by simp at hp) hoi h1
        rw [if_pos (show holds st1.bs [] from trivial)] at he2
        refine rops_sound hcf hcx hQ hQp r is st2 ρ1 S1 w1 _ hl' he2 ?_ h2
        rw [put_defers]
        exact (hinv.adv hst hadv).mv hm2 (OwnEq.of hch2)
    · rename_i L _ hc
      obtain ⟨hcl, hw⟩ := cond_wanted he hc
      have quiet : qop cf cf.tt st L o.op (fun st' s => putK st' i o L s (fun st'' => rops cf cf.tt r is st'' K Kp)) → wpListIn (FF r0) n cf.P ops Q (o :: r) a w := by
        intro h
        obtain ⟨st1, s, ρ1, h1, hr⟩ := qop_sound hcf hcl hinv.inv.mem he h
        have he1 := he.step hr.n hr.env hr.bs hr.chx hr.old
        have fin : ∀ w', CC w w' → wpListIn (FF r0) n cf.P ops Q r (a.put o.dst (if holds st1.bs L then den ρ1 s else undef)) w' := by
          intro w' hw'
          have hadv : Adv st st1 ρ ρ1 S S w w' := Adv.quiet hr.n hr.env hr.bs hr.chx hr.old (hr.mem.below hw') hr.own hw'
          obtain ⟨st2, ⟨h2, hch2⟩, he2, hm2, hn2⟩ := putK_len (hr.mem.below hw') he1 (fun hL => (hr.run (by rw [hr.bs] at hL; exact hL)).1) (by rw [hr.bs]; exact hcl) hoi h1
          refine rops_sound hcf hcx hQ hQp r is st2 ρ1 S w' _ hl' he2 ?_ h2
          rw [put_defers]
          exact (hinv.adv hst hadv).mv hm2 (OwnEq.of hch2)
        simp only [wpListIn]
        by_cases hL : holds st.bs L
        · rw [if_pos (hw.2 hL)]
          refine opIn (fun c e => by rw [e] at h; exact qop_nd h) (Oper.wp_of_quiet (C := CC w) (Below.refl _ _) (K := fun a' => a' = a.put o.dst (den ρ1 s)) (fun a' w' hw' e => ?_) ⟨den ρ1 s, (hr.run hL).2, rfl⟩)
          subst e
          have := fin w' hw'
          rw [if_pos (by rw [hr.bs]; exact hL)] at this
          exact this
        · rw [if_neg (fun h => hL (hw.1 h))]
          have := fin w (Below.refl _ _)
          rw [if_neg (by rw [hr.bs]; exact hL)] at this
          exact ⟨fun _ _ => trivial, this⟩
      split at h
      · exact quiet h
      · rcases h with h | ⟨hL, h⟩ | ⟨hL, x, h⟩
        · exact quiet h
        · rw [relaxK_eq] at h
          simp only [wpListIn]
          rw [if_pos (hw.2 hL)]
          have heR := relax_env he hL
          have hmR := relax_mem (L := L) hinv.inv.mem
          refine opIn (fun c e => by rw [e] at h; exact lop_nd h) (lop_sound hcf hmR heR h _ _ (fun st1 s ρ1 S1 w1 h1 hadv hs => ?_) (fun pc st1 ρ1 S1 w1 h1 hadv => ?_))
          rotate_left
          · have he1 := heR.rel hadv.n hadv.env hadv.bs hadv.rel hadv.old
            obtain ⟨st', ⟨hK, hl⟩, g1, g2, g3, g4⟩ := condOut_len hadv.mem he1 h1
            have := ((hinv.mv hmR (OwnEq.refl _)).adv hst hadv).mv g2 hl
            exact hQp pc st' a w1 hK ⟨ρ1, S1, g1, g4, this.inv, this.df⟩
          have he1 := heR.rel hadv.n hadv.env hadv.bs hadv.rel hadv.old
          obtain ⟨st2, ⟨h2, hch2⟩, he2, hm2, hn2⟩ := putK_len hadv.mem he1 (fun _ => hs) (fun p hp => by simp at hp) hoi h1
          rw [if_pos (show holds st1.bs [] from trivial)] at he2
          refine rops_sound hcf hcx hQ hQp r is st2 ρ1 S1 w1 _ hl' he2 ?_ h2
          rw [put_defers]
          exact ((hinv.mv hmR (OwnEq.refl _)).adv hst hadv).mv hm2 (OwnEq.of hch2)
        · simp only [wpListIn]
          rw [if_neg (fun h => hL (hw.1 h))]
          obtain ⟨st2, ⟨h2, hch2⟩, he2, hm2, hn2⟩ := putK_len hinv.inv.mem he (fun hh => absurd hh hL) hcl hoi h
          rw [if_neg hL] at he2
          refine ⟨fun _ _ => trivial, rops_sound hcf hcx hQ hQp r is st2 ρ S w _ hl' he2 ?_ h2⟩
          rw [put_defers]
          exact hinv.mv hm2 (OwnEq.of hch2)

end
end Go.Eng

/-! part Snd14a -/
namespace Go.Eng
open Go.RowKit
open Classical

section
variable {cx : Ctx} {cf : Cfg} {ops : Array Oper}

theorem dropL_head {α : Type u} : ∀ (l : List α) (i : Nat) (o : α) (r : List α), dropL l i = o :: r → l[i]? = some o
  | [], 0, o, r, h => by simp [dropL] at h
  | [], _ + 1, o, r, h => by simp [dropL] at h
  | a :: l, 0, o, r, h => by simp only [dropL, List.cons.injEq] at h; rw [h.1]; rfl
  | a :: l, i + 1, o, r, h => by simp only [dropL] at h; simpa using dropL_head l i o r h

theorem opsAt_get (ops : Array Oper) : ∀ (τ : List Nat) (lo : List Oper), opsAt ops.toList τ = some lo → lo.length = τ.length ∧ ∀ (j i : Nat) (o : Oper), τ[j]? = some i → lo[j]? = some o → ops[i]? = some o
  | [], lo, h => by simp only [opsAt, Option.some.injEq] at h; subst h; exact ⟨rfl, fun j i o h1 => by simp at h1⟩
  | t :: τ, lo, h => by
    simp only [opsAt] at h
    split at h
    · rename_i o r lo' hd hlo
      simp only [Option.some.injEq] at h
      subst h
      obtain ⟨h1, h2⟩ := opsAt_get ops τ lo' hlo
      refine ⟨by simp [h1], fun j i o' hj ho => ?_⟩
      cases j with
      | zero =>
        simp only [List.getElem?_cons_zero, Option.some.injEq] at hj ho
        subst hj; subst ho
        simpa using dropL_head _ _ _ _ hd
      | succ j => exact h2 j i o' (by simpa using hj) (by simpa using ho)
    · cases h

theorem wpOps_of_list {P : Program} {Q : Exit → Act → World → Prop} : ∀ (τ : List Nat) (lo : List Oper), lo.length = τ.length → (∀ (j i : Nat) (o : Oper), τ[j]? = some i → lo[j]? = some o → ops[i]? = some o) → ∀ {a : Act} {w : World}, wpOps P ops Q τ a w = wpList P ops Q lo a w
  | [], [], _, _, a, w => rfl
  | [], _ :: _, h, _, a, w => by simp at h
  | _ :: _, [], h, _, a, w => by simp at h
  | t :: τ, o :: lo, h, hg, a, w => by
    have ho := hg 0 t o rfl rfl
    have ih : wpOps P ops Q τ = wpList P ops Q lo := funext fun a => funext fun w => wpOps_of_list τ lo (by simpa using h) (fun j i o h1 h2 => hg (j + 1) i o (by simpa using h1) (by simpa using h2))
    simp only [wpOps, wpList, ho, ih]


theorem cUpon_of_LOkB {P : Program} {st : St} {o : Oper} {K : St → SV → Prop} {ρ : Nat → Value} {S : Nat → Prop} {w : World} {a : Act} (h : LOkB P st o K ρ S w a) {Kc : Act → World → Prop} {Qc : List PanicEntry → Act → World → Prop}
    (hK : ∀ st' s ρ' S' w', Adv st st' ρ ρ' S S' w w' → svOk st'.ch s → CC w w' → K st' s → Kc (a.put o.dst (den ρ' s)) w') : cUpon P (fun pc w' => Qc pc a w') (fun v w' => Kc (a.put o.dst v) w') ((execOp a.eval o).run P w) := by
  have hd : ∀ v, (a.put o.dst v).defers = a.defers := fun v => by unfold Act.put; cases o.dst <;> rfl
  have hw := h (fun a' w' => Kc a' w' ∧ a'.defers = a.defers) (fun _ _ _ => False) (fun st' s ρ' S' w' h1 h2 h3 h4 => ⟨hK st' s ρ' S' w' h2 h3 h4 h1, hd _⟩)
  unfold Oper.wp at hw
  generalize (execOp a.eval o).run P w = r at *
  cases r with
  | ok n w' =>
    cases n with
    | value v => exact hw.1
    | skip => exact hw.1
    | defer d =>
      exfalso
      have h2 := hw.2
      unfold Act.put at h2
      cases hdst : o.dst <;> simp [hdst] at h2
    | enter f args =>
      refine Calls.mono hw fun e w'' h2 => ?_
      cases e with
      | returned v => exact .inl ⟨v, rfl, h2.1⟩
      | panicked c => exact h2.elim
      | outgrown => obtain ⟨_, _, h3⟩ := h2; exact h3.elim
    | row r args => exact Rows.mono hw fun v w'' h2 => h2.1
    | _ => exact hw.elim
  | halt x w' =>
    cases x <;> exact hw.elim

theorem mop_sound {cf : Cfg} (hcf : CfgOk cf) {st : St} {ρ : Nat → Value} {S : Nat → Prop} {w : World} {a : Act} {o : Oper} {K : St → SV → Prop} {Kp : List PanicEntry → St → Prop} (hm : MemOk st ρ S w) (he : EnvOk ops st ρ a) (h : mop cf st o.op K Kp) {Kc : Act → World → Prop} {Qc : List PanicEntry → Act → World → Prop}
    (hP : ∀ pc st' ρ' S' w', Adv st st' ρ ρ' S S' w w' → CC w w' → Kp pc st' → Qc pc a w')
    (hK : ∀ st' s ρ' S' w', Adv st st' ρ ρ' S S' w w' → svOk st'.ch s → CC w w' → K st' s → Kc (a.put o.dst (den ρ' s)) w') :
    cUpon cf.P (fun pc w' => Qc pc a w') (fun v w' => Kc (a.put o.dst v) w') ((execOp a.eval o).run cf.P w) := by
  generalize ho : o.op = op at h
  unfold mop at h
  split at h
  · rename_i f args ts
    split at h
    · rename_i l hf hl
      obtain ⟨h1, _⟩ := getVs_sound he (show holds st.bs [] from trivial) _ _ hl
      have hargs : args.map a.eval = (denL ρ l).toArray := by rw [← h1, ← Array.toList_map]
      have hrun : (execOp a.eval o).run cf.P w = .ok (.enter f (denL ρ l).toArray) w := by
        have := hcf.fns f (hasN_mem hf) (denL ρ l).toArray w
        simp [execOp, ho, resolve, Act.eval, Deferred.ofValue, invoke, hargs, this]
      rw [hrun]
      exact (h ρ S w hm).mono fun e w' h0 => h0.imp (fun ⟨st', s, ρ', S', h2, h3, h4, h5, h6⟩ => ⟨_, h2, hK st' s ρ' S' w' h3 h4 h5 h6⟩) (fun ⟨pc, st', ρ', S', h2, h3, h4, h5⟩ => ⟨pc, h2, hP pc st' ρ' S' w' h3 h4 h5⟩)
    · exact h.elim
  · exact cUpon_of_LOkB (l_alloc hcf.tt ho hm h) hK
  · exact cUpon_of_LOkB (l_box ho hm he h) hK
  · exact cUpon_of_LOkB (l_buildSlice hcf.tt ho hm he h) hK
  · exact h.elim

theorem panE_spec (l : List Oper) : ∀ (env : List Ent) (K : List Ent → Prop), panE l env K → K (env.filter fun x => !dstL l x.slot)
  | [], K, h => h
  | ⟨d, L, s⟩ :: r, K, h => by
    unfold panE at h
    split at h
    · rename_i hd
      rw [List.filter_cons_of_pos (by simp [hd])]
      exact panE_spec l r _ h
    · rename_i hd
      rw [List.filter_cons_of_neg (by simp [hd])]
      exact panE_spec l r _ h

theorem dstL_get : ∀ {l : List Oper} {i : Nat} {o : Oper} {d : Nat}, l[i]? = some o → o.dst = some d → dstL l d = true
  | [], i, o, d, h, _ => by simp at h
  | x :: r, 0, o, d, h, hd => by
    simp only [List.getElem?_cons_zero, Option.some.injEq] at h
    subst h
    simp [dstL, hd]
  | x :: r, i + 1, o, d, h, hd => by
    have ih := dstL_get (l := r) (i := i) (by simpa using h) hd
    unfold dstL
    split
    · exact ih
    · split
      · rfl
      · exact ih

/-- no entry's slot is written in the region -/
def noDst (l : List Oper) (st : St) : Prop := st.bs = [] ∧ ∀ e ∈ st.env, dstL l e.slot = false
theorem lookE_mem : ∀ {env : List Ent} {d : Nat} {e : Ent}, lookE env d = some e → e ∈ env ∧ e.slot = d
  | [], d, e, h => by simp [lookE] at h
  | x :: r, d, e, h => by
    rw [lookE_cons] at h
    split at h
    · rename_i hd; simp only [Option.some.injEq] at h; subst h; exact ⟨by simp, hd⟩
    · obtain ⟨h1, h2⟩ := lookE_mem h; exact ⟨by simp [h1], h2⟩
theorem EnvOk.put_back {st : St} {ρ : Nat → Value} {a : Act} (hn : noDst ops.toList st) {i : Nat} {o : Oper} (ho : ops[i]? = some o) {v : Value} (h : EnvOk ops st ρ (a.put o.dst v)) : EnvOk ops st ρ a := by
  cases hd : o.dst with
  | none => rw [hd] at h; exact h
  | some d =>
    rw [hd] at h
    have hdl := dstL_get (l := ops.toList) (i := i) (by simpa using ho) hd
    refine ⟨by have := h.size; simpa [Act.put] using this, fun d' e hl hj => ?_, h.ok, h.cl, fun e he => by rw [hn.1] at he; simp at he, h.bcl⟩
    have := h.ent d' e hl hj
    obtain ⟨h1, h2⟩ := lookE_mem hl
    have hne : d' ≠ d := fun e1 => by
      have := hn.2 e h1
      rw [h2, e1, hdl] at this
      cases this
    simpa [Act.put, Array.getElem?_setIfInBounds, Ne.symm hne] using this

theorem lookE_filterL {l : List Oper} : ∀ {env : List Ent} {d : Nat} {e : Ent}, dstL l d = false → lookE (env.filter fun x => !dstL l x.slot) d = some e → lookE env d = some e
  | [], d, e, _, h => h
  | x :: r, d, e, hd, h => by
    rw [lookE_cons]
    by_cases hx : x.slot = d
    · rw [List.filter_cons_of_pos (by rw [hx, hd]; rfl), lookE_cons, if_pos hx] at h
      rw [if_pos hx]; exact h
    · rw [if_neg hx]
      by_cases hp : (!dstL l x.slot) = true
      · rw [List.filter_cons_of_pos (p := fun x : Ent => !dstL l x.slot) hp, lookE_cons, if_neg hx] at h
        exact lookE_filterL hd h
      · rw [List.filter_cons_of_neg (p := fun x : Ent => !dstL l x.slot) hp] at h
        exact lookE_filterL hd h

theorem EnvOk.anyOps {ops ops' : Array Oper} {st : St} {ρ : Nat → Value} {a : Act} (hb : st.bs = []) (h : EnvOk ops st ρ a) : EnvOk ops' st ρ a :=
  ⟨h.size, h.ent, h.ok, h.cl, fun e he => by rw [hb] at he; simp at he, h.bcl⟩

theorem panK_sound {st : St} {ρ : Nat → Value} {S : Nat → Prop} {w : World} {a : Act} {Kp : List PanicEntry → St → Prop} {Qp : List PanicEntry → Act → World → Prop} {pc : List PanicEntry} (he : EnvOk ops st ρ a) (hi : InvD cx st ρ S w a.defers) (h : panK ops.toList st (Kp pc))
    (hP : ∀ pc st' ρ' S' a' w', Kp pc st' → noDst ops.toList st' → EnvOk ops st' ρ' a' → InvD cx st' ρ' S' w' a'.defers → Qp pc a' w') : Qp pc a w := by
  obtain ⟨n, env, ch, bs, ids⟩ := st
  unfold panK at h
  simp only at h
  split at h
  · have := panE_spec _ _ _ h
    refine hP pc _ ρ S a w this ⟨rfl, fun e hm => ?_⟩ ?_ ⟨⟨⟨hi.inv.mem.ok, hi.inv.mem.cells, hi.inv.mem.sep, hi.inv.mem.out, hi.inv.mem.lt, hi.inv.mem.ccl⟩, hi.inv.frm, hi.inv.size, hi.inv.os, hi.inv.tape, hi.inv.output, hi.inv.kle, hi.inv.anch, hi.inv.yl, hi.inv.one, hi.inv.sf⟩, hi.df⟩
    · have := (List.mem_filter.1 hm).2
      simpa using this
    · have look : ∀ d e, lookE (env.filter fun x => !dstL ops.toList x.slot) d = some e → lookE env d = some e := fun d e hl => by
        obtain ⟨h1, h2⟩ := lookE_mem hl
        have := (List.mem_filter.1 h1).2
        exact lookE_filterL (by rw [← h2]; simpa using this) hl
      exact ⟨he.size, fun d e hl hj => he.ent d e (look d e hl) hj, fun d e hl hh => he.ok d e (look d e hl) hh, fun d e hl => he.cl d e (look d e hl), he.bent, he.bcl⟩
  · exact h.elim

theorem mops_sound (hcf : CfgOk cf) (hst : ∀ go, Stab (cx.J go)) {ms : List Nat} {Kp : List PanicEntry → St → Prop} {Qp : List PanicEntry → Act → World → Prop} (hP : ∀ pc st' ρ' S' a' w', Kp pc st' → noDst ops.toList st' → EnvOk ops st' ρ' a' → InvD cx st' ρ' S' w' a'.defers → Qp pc a' w') {K : St → Prop} {Q : Act → World → Prop} (hQ : ∀ st' ρ' S' a' w', K st' → EnvOk ops st' ρ' a' → InvD cx st' ρ' S' w' a'.defers → Q a' w') :
    ∀ (π : List Nat) (st : St) (ρ : Nat → Value) (S : Nat → Prop) (w : World) (a : Act), EnvOk ops st ρ a → InvD cx st ρ S w a.defers → mops cf cf.tt ops.toList ms Kp π st K → wpC Qp CC cf.P ops ms Q π a w
  | [], st, ρ, S, w, a, he, hinv, h => fun w' hw' => hQ st ρ S a w' h he (hinv.below' hst hw')
  | i :: r, st, ρ, S, w, a, he, hinv, h => by
    simp only [mops] at h
    split at h
    · exact h.elim
    · exact h.elim
    · rename_i o rest hpi hd
      have hoi : ops[i]? = some o := by simpa using dropL_head _ _ _ _ hd
      split at h
      · exact h.elim
      · rename_i L hc
        obtain ⟨hcl, hw⟩ := cond_wanted he hc
        simp only [wpC, hpi]
        cases hms : ms.contains i with
        | false =>
          simp only [hms] at h ⊢
          obtain ⟨st1, s, ρ1, h1, hr⟩ := qop_sound hcf hcl hinv.inv.mem he h
          have he1 := he.step hr.n hr.env hr.bs hr.chx hr.old
          have hadv : Adv st st1 ρ ρ1 S S w w := Adv.quiet hr.n hr.env hr.bs hr.chx hr.old hr.mem hr.own (Below.refl _ _)
          obtain ⟨st2, ⟨h2, hch2⟩, he2, hm2, hn2⟩ := putK_len hr.mem he1 (fun hL => (hr.run (by rw [hr.bs] at hL; exact hL)).1) (by rw [hr.bs]; exact hcl) hoi h1
          refine ⟨o, _, hoi, ?_, mops_sound hcf hst hP hQ r st2 ρ1 S w _ he2 (by rw [put_defers]; exact (hinv.adv hst hadv).mv hm2 (OwnEq.of hch2)) h2⟩
          by_cases hL : holds st.bs L
          · rw [if_pos (by rw [hr.bs]; exact hL)]
            exact .inl ⟨hw.2 hL, (hr.runw hL).2⟩
          · rw [if_neg (by rw [hr.bs]; exact hL)]
            exact .inr ⟨by cases hwa : Region.wanted o (yielded ops a.tmps) with | false => rfl | true => exact absurd (hw.1 hwa) hL, rfl⟩
        | true =>
          simp only [hms] at h ⊢
          have run : ∀ (stR : St), EnvOk ops stR ρ a → (∀ w', CC w w' → InvD cx stR ρ S w' a.defers) → Region.wanted o (yielded ops a.tmps) = true → mop cf stR o.op (fun st' s => putK st' i o [] s (fun st'' => mops cf cf.tt ops.toList ms Kp r st'' K)) (fun pc st' => panK ops.toList st' (Kp pc)) →
              ∀ w', CC w w' → cStep cf.P ops Qp i (fun a' w'' => CC w' w'' ∧ wpC Qp CC cf.P ops ms Q r a' w'') a w' := by
            intro stR heR hinvR hwa hmop w' hw'
            unfold cStep
            simp only [hoi, hwa, if_true]
            refine mop_sound hcf (hinvR w' hw').inv.mem heR hmop (Kc := fun a' w'' => CC w' w'' ∧ wpC Qp CC cf.P ops ms Q r a' w'') (Qc := Qp) (fun pc st1 ρ1 S1 w'' hadv hcc h1 => panK_sound (heR.rel hadv.n hadv.env hadv.bs hadv.rel hadv.old) ((hinvR w' hw').adv hst hadv) h1 hP) (fun st1 s ρ1 S1 w'' hadv hs hcc h1 => ?_)
            have he1 := heR.rel hadv.n hadv.env hadv.bs hadv.rel hadv.old
            obtain ⟨st2, ⟨h2, hch2⟩, he2, hm2, hn2⟩ := putK_len hadv.mem he1 (fun _ => hs) (fun p hp => by simp at hp) hoi h1
            rw [if_pos (show holds st1.bs [] from trivial)] at he2
            refine ⟨hcc, ?_⟩
            exact mops_sound hcf hst hP hQ r st2 ρ1 S1 w'' _ he2 (by rw [put_defers]; exact ((hinvR w' hw').adv hst hadv).mv hm2 (OwnEq.of hch2)) h2
          cases L with
          | nil => exact run st he (fun w' hw' => hinv.below' hst hw') (hw.2 trivial) h
          | cons l0 L0 =>
            rcases h with ⟨hL, h⟩ | ⟨hL, x, h⟩
            · rw [relaxK_eq] at h
              exact run _ (relax_env he hL) (fun w' hw' => (hinv.below' hst hw').mv (relax_mem (hinv.below' hst hw').inv.mem) (OwnEq.refl _)) (hw.2 hL) h
            · intro w' hw'
              unfold cStep
              have hwa : Region.wanted o (yielded ops a.tmps) = false := by cases hwa : Region.wanted o (yielded ops a.tmps) with | false => rfl | true => exact absurd (hw.1 hwa) hL
              simp only [hoi, hwa, Bool.false_eq_true, if_false]
              obtain ⟨st2, ⟨h2, hch2⟩, he2, hm2, hn2⟩ := putK_len (hinv.below' hst hw').inv.mem he (fun hh => absurd hh hL) hcl hoi h
              rw [if_neg hL] at he2
              exact ⟨CC.refl _, mops_sound hcf hst hP hQ r st2 ρ S w' _ he2 (by rw [put_defers]; exact (hinv.below' hst hw').mv hm2 (OwnEq.of hch2)) h2⟩

theorem wpStill_mono {P : Program} {w : World} {Q Q' : Act → Prop} (h : ∀ a, Q a → Q' a) : ∀ (l : List Oper) (a : Act), wpStill P ops w Q l a → wpStill P ops w Q' l a
  | [], a, hq => h a hq
  | o :: r, a, hq => by
    simp only [wpStill] at hq ⊢
    split
    · rename_i hw
      rw [if_pos hw] at hq
      exact Oper.still_mono (fun a' => wpStill_mono h r a') hq
    · rename_i hw
      rw [if_neg hw] at hq
      exact wpStill_mono h r _ hq

theorem hops_sound {S : Nat → Prop} {w0 w1 : World} (hcf : CfgOk cf) (hw1 : CC w0 w1) {K : St → List Nat → Prop} : ∀ (l : List Oper) (is : List Nat) (k : Nat) (st : St) (ρ : Nat → Value) (a : Act), (∀ j : Nat, j < l.length → l[j]? = ops[k + j]?) → (∀ (j i : Nat), is[j]? = some i → i = k + j) →
    MemOk st ρ S w0 → EnvOk ops st ρ a → hops cf cf.tt l is st K →
    wpStill cf.P ops w1 (fun a' => ∃ st' ρ' is', K st' is' ∧ EnvOk ops st' ρ' a' ∧ MemOk st' ρ' S w0 ∧ st.ch.length ≤ st'.ch.length ∧ (∀ id, id < st.ch.length → ρ' id = ρ id) ∧ (∀ (j i : Nat), is'[j]? = some i → i = k + l.length + j) ∧ (∀ i b, i < st'.ch.length → ownBlk (chGet st'.ch i) (ρ' i) = some b → ∃ j, j < st.ch.length ∧ ownBlk (chGet st.ch j) (ρ j) = some b) ∧ (∀ i l go n, chGet st'.ch i = .yk l go n → chGet st.ch i = .yk l go n) ∧ a'.defers = a.defers) l a
  | [], is, k, st, ρ, a, _, hi, hm, he, h => ⟨st, ρ, is, h, he, hm, Nat.le_refl _, fun _ _ => rfl, fun j i hj => by simpa using hi j i hj, fun i b hi e => ⟨i, hi, e⟩, fun _ _ _ _ e => e, rfl⟩
  | o :: r, [], k, st, ρ, a, _, _, hm, he, h => by simp [hops] at h
  | o :: r, i :: is, k, st, ρ, a, hl, hi, hm, he, h => by
    simp only [hops] at h
    split at h
    case h_2 => exact h.elim
    rename_i L hc hnc
    obtain ⟨hcl, hw⟩ := cond_wanted he hc
    obtain ⟨st1, s, ρ1, h1, hr⟩ := qop_sound hcf hcl hm he h
    have he1 := he.step hr.n hr.env hr.bs hr.chx hr.old
    have hik : i = k := by simpa using hi 0 i rfl
    have hoi : ops[i]? = some o := by rw [hik]; simpa using (hl 0 (by simp)).symm
    obtain ⟨st2, ⟨h2, hch2⟩, he2, hm2, hn2⟩ := putK_len hr.mem he1 (fun hL => (hr.run (by rw [hr.bs] at hL; exact hL)).1) (by rw [hr.bs]; exact hcl) hoi h1
    have ih := hops_sound hcf hw1 r is (k + 1) st2 ρ1 _ (fun j hj => by have := hl (j + 1) (by simpa using hj); simpa [Nat.add_assoc, Nat.add_comm 1 j] using this) (fun j x hx => by have := hi (j + 1) x (by simpa using hx); omega) hm2 he2 h2
    have ih' := wpStill_mono (P := cf.P) (ops := ops) (w := w1) (Q' := fun a' => ∃ st' ρ' is', K st' is' ∧ EnvOk ops st' ρ' a' ∧ MemOk st' ρ' S w0 ∧ st.ch.length ≤ st'.ch.length ∧ (∀ id, id < st.ch.length → ρ' id = ρ id) ∧ (∀ (j x : Nat), is'[j]? = some x → x = k + (o :: r).length + j) ∧ (∀ i b, i < st'.ch.length → ownBlk (chGet st'.ch i) (ρ' i) = some b → ∃ j, j < st.ch.length ∧ ownBlk (chGet st.ch j) (ρ j) = some b) ∧ (∀ i l go n, chGet st'.ch i = .yk l go n → chGet st.ch i = .yk l go n) ∧ a'.defers = a.defers) (fun a' hq => by
      obtain ⟨st', ρ', is', g1, g2, g3, g5, g6, g7, g8, g9, g10⟩ := hq
      exact ⟨st', ρ', is', g1, g2, g3, Nat.le_trans hr.chx.1 (by rw [← hch2]; exact g5), fun id hid => (g6 id (by rw [hch2]; exact Nat.lt_of_lt_of_le hid hr.chx.1)).trans (hr.old id hid), fun j x hx => by have := g7 j x hx; simp only [List.length_cons]; omega, fun i b hi e => (by
        obtain ⟨j, hj, e2⟩ := g8 i b hi e
        rw [hch2] at hj e2
        by_cases hlt : j < st.ch.length
        · rw [hr.chx.2 j hlt, hr.old j hlt] at e2; exact ⟨j, hlt, e2⟩
        · exact absurd e2 ((hr.own j (by omega) hj).1 b)), fun i l go n e => hr.yks i l go n (by rw [← hch2]; exact g9 i l go n e), by rw [g10, put_defers]⟩) r _ ih
    simp only [wpStill]
    by_cases hL : holds st.bs L
    · rw [if_pos (hw.2 hL)]
      rw [if_pos (by rw [hr.bs]; exact hL)] at ih'
      unfold Oper.still
      rw [hr.pl hnc hL w1 hw1]
      exact ⟨rfl, ih'⟩
    · rw [if_neg (fun h => hL (hw.1 h))]
      rw [if_neg (by rw [hr.bs]; exact hL)] at ih'
      exact ih'

/-! ### entailment -/
/-- the chunks' values, numbered anew; from 1000 on: nil -/
def renρ (ρ : Nat → Value) (m : List Nat) : Nat → Value := fun p => match Nat.ble 1000 (renN m p) with | true => .slice none 0 0 | false => ρ (renN m p)
mutual
theorem den_ren (ρ : Nat → Value) (m : List Nat) : ∀ s, den (renρ ρ m) s = den ρ (ren m s)
  | .v _ => rfl
  | .bx id off => by
    simp only [den, ren, renρ]
    cases h : Nat.ble 1000 (renN m id) <;> simp only [den]
  | .el id sz i off => by
    simp only [den, ren, renρ]
    cases h : Nat.ble 1000 (renN m id) <;> simp only [den]
  | .sl id => by
    simp only [den, ren, renρ]
    cases h : Nat.ble 1000 (renN m id) <;> simp only [den]
  | .agg l => by simp only [den, ren, denL_ren ρ m l]
  | .tup l => by simp only [den, ren, denL_ren ρ m l]
  | .fn f l => by simp only [den, ren, denL_ren ρ m l]
  | .mv f l1 l2 => by simp only [den, ren, denL_ren ρ m l1, denL_ren ρ m l2]
  | .junk => rfl
theorem denL_ren (ρ : Nat → Value) (m : List Nat) : ∀ l, denL (renρ ρ m) l = denL ρ (renL m l)
  | [] => rfl
  | s :: r => by simp only [denL, renL, den_ren ρ m s, denL_ren ρ m r]
end
theorem blt_lt {a b : Nat} (h : Nat.blt a b = true) : a < b := Nat.le_of_ble_eq_true h
mutual
theorem idsOk_svOk {ch : List Chunk} : ∀ s, idsOk ch s = true → svOk ch s
  | .v _, _ => by simp [svOk]
  | .bx id off, h => by simp only [idsOk] at h; simp only [svOk]; exact blt_lt h
  | .el _ _ _ _, h => by simp [idsOk] at h
  | .sl id, h => by simp only [idsOk] at h; simp only [svOk]; exact blt_lt h
  | .agg l, h => by simp only [idsOk] at h; simp only [svOk]; exact idsOkL_svOk l h
  | .tup l, h => by simp only [idsOk] at h; simp only [svOk]; exact idsOkL_svOk l h
  | .fn _ l, h => by simp only [idsOk] at h; simp only [svOk]; exact idsOkL_svOk l h
  | .mv _ l1 l2, h => by
    simp only [idsOk] at h
    simp only [svOk]
    split at h
    · rename_i h1; exact ⟨idsOkL_svOk l1 h1, idsOkL_svOk l2 h⟩
    · cases h
  | .junk, _ => by simp [svOk]
theorem idsOkL_svOk {ch : List Chunk} : ∀ l, idsOkL ch l = true → svOkL ch l
  | [], _ => by simp [svOkL]
  | s :: r, h => by
    simp only [idsOkL] at h
    split at h
    · rename_i h1; exact ⟨idsOk_svOk s h1, idsOkL_svOk r h⟩
    · cases h
end

theorem envLe_get {env : List Ent} {m : List Nat} {ch : List Chunk} : ∀ (env' : List Ent), envLe env m ch env' → ∀ d e, lookE env' d = some e → e.cond = [] ∧ idsOk ch e.sv = true ∧ ∃ e0, lookE env d = some e0 ∧ e0.cond = [] ∧ e0.sv = ren m e.sv
  | [], _, d, e, h => by simp [lookE] at h
  | ⟨s, L, v⟩ :: r, hle, d, e, h => by
    cases L with
    | cons x y => simp only [envLe] at hle
    | nil =>
      simp only [envLe] at hle
      split at hle
      · rename_i sl v0 h1 h2
        rw [lookE_cons] at h
        split at h
        · rename_i hs
          have hs : s = d := hs
          simp only [Option.some.injEq] at h
          subst h hs
          exact ⟨rfl, h2, _, h1, rfl, hle.1⟩
        · exact envLe_get r hle.2 d e h
      · exact hle.elim

theorem chsLe_get {ch : List Chunk} {m : List Nat} {ch' : List Chunk} : ∀ (is : List Nat) (cs : List Chunk), chsLe ch m ch' is cs → is.length = cs.length ∧ ∀ p, p < cs.length → (Nat.ble 1000 (renN is p) = true ∧ nilOwn (chGet cs p)) ∨ (Nat.ble 1000 (renN is p) = false ∧ renN is p < ch.length ∧ chunkLe m ch' (chGet ch (renN is p)) (chGet cs p))
  | [], [], _ => ⟨rfl, fun p h => by simp at h⟩
  | [], _ :: _, h => by simp [chsLe] at h
  | _ :: _, [], h => by simp [chsLe] at h
  | i :: is, c :: cs, h => by
    simp only [chsLe] at h
    split at h
    · rename_i hm
      obtain ⟨h1, h2⟩ := chsLe_get is cs h.2
      refine ⟨by simp [h1], fun p hp => ?_⟩
      cases p with
      | zero => exact .inl ⟨by simpa [renN, dropL] using hm, by simpa [chGet] using h.1⟩
      | succ p => have := h2 p (by simpa using hp); simpa [renN, dropL, chGet] using this
    · rename_i hm
      split at h
      · rename_i hi
        obtain ⟨h1, h2⟩ := chsLe_get is cs h.2
        refine ⟨by simp [h1], fun p hp => ?_⟩
        cases p with
        | zero => exact .inr ⟨by simpa [renN, dropL] using hm, by simpa [renN, dropL] using blt_lt hi, by simpa [renN, dropL, chGet] using h.1⟩
        | succ p => have := h2 p (by simpa using hp); simpa [renN, dropL, chGet] using this
      · exact h.elim

theorem hasN_iff : ∀ {l : List Nat} {n : Nat}, hasN l n = true ↔ n ∈ l
  | [], n => by simp [hasN]
  | a :: r, n => by
    simp only [hasN]
    constructor
    · intro h; split at h
      · rename_i hb; have := Nat.eq_of_beq_eq_true hb; subst this; simp
      · exact List.mem_cons_of_mem _ (hasN_iff.1 h)
    · intro h
      split
      · rfl
      · rename_i hb
        rcases List.mem_cons.1 h with rfl | h
        · simp at hb
        · exact hasN_iff.2 h

theorem renN_eq (m : List Nat) (p : Nat) : renN m p = m.getD p 0 := by
  unfold renN
  rw [dropL_eq]
  cases h : m[p]? with
  | none =>
    have := List.getElem?_eq_none_iff.1 h
    rw [List.drop_eq_nil_of_le this]
    simp [h]
  | some x =>
    have hlt := (List.getElem?_eq_some_iff.1 h).1
    rw [List.drop_eq_getElem_cons hlt]
    simp [h, (List.getElem?_eq_some_iff.1 h).2]

theorem nodupN_inj : ∀ (m : List Nat), nodupN m = true → ∀ p q, p < m.length → q < m.length → renN m p = renN m q → p = q
  | [], _, p, q, h, _, _ => by simp at h
  | a :: r, hn, p, q, hp, hq, h => by
    simp only [nodupN] at hn
    split at hn
    · cases hn
    rename_i hna
    have hna : a ∉ r := fun hm => by rw [hasN_iff.2 hm] at hna; cases hna
    have mem : ∀ p, p < r.length → renN r p ∈ r := by
      intro p hp
      rw [renN_eq]
      simp [hp]
    cases p with
    | zero =>
      cases q with
      | zero => rfl
      | succ q =>
        exfalso
        have : renN (a :: r) (q + 1) = renN r q := by simp [renN, dropL]
        rw [this] at h
        have h0 : renN (a :: r) 0 = a := by simp [renN, dropL]
        rw [h0] at h
        exact hna (h ▸ mem q (by simpa using hq))
    | succ p =>
      have e1 : renN (a :: r) (p + 1) = renN r p := by simp [renN, dropL]
      cases q with
      | zero =>
        exfalso
        have h0 : renN (a :: r) 0 = a := by simp [renN, dropL]
        rw [e1, h0] at h
        exact hna (h ▸ mem p (by simpa using hp))
      | succ q =>
        have e2 : renN (a :: r) (q + 1) = renN r q := by simp [renN, dropL]
        rw [e1, e2] at h
        rw [nodupN_inj r hn p q (by simpa using hp) (by simpa using hq) h]

theorem eqN_eq : ∀ {a b : List Nat}, eqN a b = true → a = b
  | [], [], _ => rfl
  | [], _ :: _, h => by simp [eqN] at h
  | _ :: _, [], h => by simp [eqN] at h
  | a :: r, b :: s, h => by
    simp only [eqN] at h
    split at h
    · rename_i hb; rw [Nat.eq_of_beq_eq_true hb, eqN_eq h]
    · cases h

theorem ownBlk_bx (t1 t2 : TypeId) (c1 c2 : List SV) (v : Value) : ownBlk (.bx t1 c1) v = ownBlk (.bx t2 c2) v := by
  cases v with
  | pointer a => cases a <;> rfl
  | _ => rfl

theorem Ent'.sat' {m : List Nat} {st st' : St} {ρ : Nat → Value} {S : Nat → Prop} {a : Act} {w : World} {dl : List Deferred} (hk : cx.k ≤ 300) (h : Ent' cx.k m st st') (he : ∀ ops, EnvOk ops st ρ a) (hbs : st.bs = []) (hinv : Inv cx st ρ S w) (hdf : DefOk cx st ρ S w dl) :
    ∃ ρ', (∀ ops, EnvOk ops st' ρ' a) ∧ st'.bs = [] ∧ Inv cx st' ρ' S w ∧ DefOk cx st' ρ' S w dl := by
  unfold Ent' at h
  split at h
  case h_2 => exact h.elim
  rename_i hnd heq hn hbs'
  obtain ⟨henv, hch⟩ := h
  have hn := Nat.eq_of_beq_eq_true hn
  have heq := eqN_eq heq
  obtain ⟨hlen, hget⟩ := chsLe_get _ _ hch
  have he := he #[]
  have hmk : cx.k ≤ m.length := by
    have := congrArg List.length heq
    rw [takeL_eq, takeL_eq, List.length_take, List.length_take] at this
    have hnl : nats.length = 300 := by decide +kernel
    omega
  have kindN : ∀ c, nilOwn c → ∃ t α inh sz enc, c = .own t α inh sz enc [] := by
    intro c hc
    cases c with
    | own t α inh sz enc xs => have : xs = [] := hc; subst this; exact ⟨t, α, inh, sz, enc, rfl⟩
    | _ => exact hc.elim
  have own : ∀ p, p < st'.ch.length → ∀ b, ownBlk (chGet st'.ch p) (renρ ρ m p) = some b → Nat.ble 1000 (renN m p) = false ∧ renN m p < st.ch.length ∧ ownBlk (chGet st.ch (renN m p)) (ρ (renN m p)) = some b := by
    intro p hp b hb
    rcases hget p hp with ⟨h1, hnil⟩ | ⟨h1, hlt, hle⟩
    · exfalso
      obtain ⟨t, α, inh, sz, enc, hc⟩ := kindN _ hnil
      rw [hc] at hb
      simp [renρ, h1, ownBlk, Value.ownBlock] at hb
    refine ⟨h1, hlt, ?_⟩
    simp only [renρ, h1] at hb
    revert hle
    revert hb
    cases chGet st'.ch p with
    | yk => intro hb; simp [ownBlk] at hb
    | dead => intro hb; simp [ownBlk] at hb
    | glb => intro hb; simp [ownBlk] at hb
    | ob ok =>
      intro hb hle
      simp only [chunkLe] at hle
      split at hle
      · rename_i hc; rw [hc]; exact (ownBlk_ob _ _ _).trans hb
      · exact hle.elim
    | rp => intro hb; simp [ownBlk] at hb
    | raw t n sz cells =>
      intro hb hle
      simp only [chunkLe] at hle
      split at hle
      · rename_i hc _; rw [hc]; exact hb
      · exact hle.elim
    | cnd => intro _ hle; exact hle.elim
    | rd => intro hb; simp [ownBlk] at hb
    | own t α inh sz enc xs => intro hb hle; rw [rawOwn_own hle]; exact hb
    | bx t cells =>
      intro hb hle
      simp only [chunkLe] at hle
      split at hle
      · rename_i hc _; rw [hc]; exact (ownBlk_bx _ _ _ _ _).trans hb
      · exact hle.elim
  have yk : ∀ p l go n, chGet st'.ch p = .yk l go n → p < st'.ch.length ∧ renN m p < st.ch.length ∧ chGet st.ch (renN m p) = .yk l go n := by
    intro p l go n e
    have hp : p < st'.ch.length := by
      rcases Nat.lt_or_ge p st'.ch.length with h | h
      · exact h
      · rw [chGet_out _ _ h] at e; cases e
    rcases hget p hp with ⟨h1, hnil⟩ | ⟨h1, hlt, hle⟩
    · rw [e] at hnil; exact hnil.elim
    · rw [e] at hle; exact ⟨hp, hlt, hle⟩
  refine ⟨renρ ρ m, fun ops => ⟨by rw [he.size, hn], ?_, ?_, ?_, fun e h => by rw [hbs'] at h; simp at h, fun e h => by rw [hbs'] at h; simp at h⟩, hbs', ⟨?_, fun b hb => ?_, hinv.size, hinv.os, hinv.tape, hinv.output, by rw [← hlen]; exact hmk, ?_, fun p l go n e => ?_, fun p q lp gp np lq gq nq e1 e2 => ?_, hinv.sf⟩, ?_⟩
  rotate_left 4
  · obtain ⟨h1, h2, h3⟩ := hinv.frm b hb
    exact ⟨h1, h2, fun p hp e => by obtain ⟨_, l1, o1⟩ := own p hp b e; exact h3 _ l1 o1⟩
  rotate_left
  · obtain ⟨_, l1, e1⟩ := yk p l go n e
    obtain ⟨h1, U, h2, h3, h4⟩ := hinv.yl _ l go n e1
    exact ⟨h1, U, h2, fun b hb => ⟨(h3 b hb).1, fun q hq e => by obtain ⟨_, l2, o2⟩ := own q hq b e; exact (h3 b hb).2 _ l2 o2⟩, h4⟩
  · obtain ⟨p1, l1, q1⟩ := yk _ _ _ _ e1
    obtain ⟨p2, l2, q2⟩ := yk _ _ _ _ e2
    exact nodupN_inj m hnd p q (by omega) (by omega) (hinv.one _ _ _ _ _ _ _ _ q1 q2)
  · obtain ⟨Ds, h1, hnd', h0, h2⟩ := hdf
    refine ⟨Ds, h1, hnd', fun hne p l go n e => h0 hne _ l go n (yk p l go n e).2.2, fun D hD => ?_⟩
    obtain ⟨h3, h4, h5, h6⟩ := h2 D hD
    exact ⟨h3, h4, h5, fun p hp e => by obtain ⟨_, l1, o1⟩ := own p hp D e; exact h6 _ l1 o1⟩
  · intro d e hl hj
    obtain ⟨h1, h2, e0, h3, h4, h5⟩ := envLe_get _ henv d e hl
    have hj0 : e0.sv ≠ .junk := by
      rw [h5]
      cases hsv : e.sv with
      | junk => exact absurd hsv hj
      | bx id off => simp only [ren]; cases Nat.ble 1000 (renN m id) <;> simp
      | el id sz i off => simp only [ren]; cases Nat.ble 1000 (renN m id) <;> simp
      | sl id => simp only [ren]; cases Nat.ble 1000 (renN m id) <;> simp
      | _ => simp [ren]
    have := he.ent d e0 h3 hj0
    rw [h4, if_pos (by trivial), h5] at this
    rw [this, h1, if_pos (by trivial), den_ren]
  · intro d e hl _
    exact idsOk_svOk _ (envLe_get _ henv d e hl).2.1
  · intro d e hl
    rw [(envLe_get _ henv d e hl).1]
    intro p hp
    simp at hp
  · have hm := hinv.mem
    refine ⟨fun p hp => ?_, fun p => ?_, fun p q b hp hq hpq h1 h2 => ?_, fun p b hp h1 => ?_, hm.lt, fun p => ?_⟩
    · rcases hget p hp with ⟨h1, hnil⟩ | ⟨h1, hlt, hle⟩
      · obtain ⟨t, α, inh, sz, enc, hc⟩ := kindN _ hnil
        rw [hc]
        simp only [renρ, h1]
        exact ⟨[], World.ownsRow_nil _ _ _ _, fun i j d hi => by simp at hi⟩
      have hok := hm.ok _ hlt
      rw [hbs] at hok
      rw [hbs']
      simp only [renρ, h1]
      revert hle hok
      cases chGet st'.ch p with
      | yk => intro _ _; trivial
      | dead => intro _ _; trivial
      | glb g cells => intro hle hok; rw [show chGet st.ch (renN m p) = _ from hle] at hok; exact hok
      | ob ok =>
        intro hle hok
        simp only [chunkLe] at hle
        split at hle
        · rename_i hc; rw [hc] at hok; obtain ⟨r, ob, hv, hg, hob⟩ := hok; exact ⟨r, ob, hv, hg, hle ob hob⟩
        · exact hle.elim
      | raw t n sz cells =>
        intro hle hok
        simp only [chunkLe] at hle
        split at hle
        · rename_i t' n' sz' cells' hc _
          rw [hc] at hok
          obtain ⟨b, hb, hg⟩ := hok
          obtain ⟨e1, e2, e3, e4⟩ := hle
          refine ⟨b, by rw [← e2]; exact hb, ?_⟩
          have := denL_ren ρ m cells
          rw [← e4] at this
          rw [this, ← e1]
          exact hg
        · exact hle.elim
      | cnd => intro hle; exact hle.elim
      | rp L cells => intro hle hok _; obtain ⟨hle, rfl⟩ := hle; rw [show chGet st.ch (renN m p) = _ from hle] at hok; exact hok trivial
      | rd α inh sz enc xs => intro hle hok; rw [show chGet st.ch (renN m p) = _ from hle] at hok; exact hok
      | own t α inh sz enc xs =>
        intro hle hok
        rcases rawOwn_cases hle with e | ⟨n, cells, e, h2, h3⟩
        · rw [e] at hok; exact hok
        · exact raw_own hm hlt e h2 (h3 st)
      | bx t cells =>
        intro hle hok
        simp only [chunkLe] at hle
        split at hle
        · rename_i t' cells' hc _
          rw [hc] at hok
          obtain ⟨b, hb, hg⟩ := hok
          obtain ⟨e1, e2⟩ := hle
          refine ⟨b, hb, ?_⟩
          have := denL_ren ρ m cells
          rw [← e2] at this
          rw [this, ← e1]
          exact hg
        · exact hle.elim
    · by_cases hp : p < st'.ch.length
      · rcases hget p hp with ⟨h1, hnil⟩ | ⟨h1, hlt, hle⟩
        · obtain ⟨t, α, inh, sz, enc, hc⟩ := kindN _ hnil
          rw [hc]; simp [cellsIn, svOkL]
        revert hle
        cases chGet st'.ch p with
        | bx t cells =>
          intro hle
          simp only [chunkLe] at hle
          split at hle
          · rename_i hi; exact idsOkL_svOk _ hi
          · exact hle.elim
        | raw t n sz cells =>
          intro hle
          simp only [chunkLe] at hle
          split at hle
          · rename_i hi; exact idsOkL_svOk _ hi
          · exact hle.elim
        | _ => intro _; simp [cellsIn, svOkL]
      · rw [chGet_out _ _ (by omega)]; simp [cellsIn, svOkL]
    · obtain ⟨_, l1, o1⟩ := own p hp b h1
      obtain ⟨_, l2, o2⟩ := own q hq b h2
      exact hm.sep _ _ b l1 l2 (fun e => hpq (nodupN_inj m hnd p q (by omega) (by omega) e)) o1 o2
    · obtain ⟨_, l1, o1⟩ := own p hp b h1
      exact hm.out _ b l1 o1
    · by_cases hp : p < st'.ch.length
      · rcases hget p hp with ⟨h1, hnil⟩ | ⟨h1, hlt, hle⟩
        · obtain ⟨t, α, inh, sz, enc, hc⟩ := kindN _ hnil
          rw [hc]; intro q hq; simp [condsOf] at hq
        revert hle
        cases chGet st'.ch p with
        | cnd => intro hle; exact hle.elim
        | rp L cells => intro hle; rw [show condsOf (.rp L cells) = L from rfl, hle.2]; intro q hq; simp at hq
        | _ => intro _ q hq; simp [condsOf] at hq
      · rw [chGet_out _ _ (by omega)]; intro q hq; simp [condsOf] at hq
  · intro id hid
    have : renN m id = id := by
      rw [renN_eq]
      have h1 : (takeL m cx.k)[id]? = (takeL nats cx.k)[id]? := by rw [heq]
      rw [takeL_eq, takeL_eq, List.getElem?_take, List.getElem?_take, if_pos hid, if_pos hid] at h1
      have h2 : nats[id]? = some id := by
        have hnl : nats.length = 300 := by decide +kernel
        have hx : id < nats.length := by omega
        have := nats_get id nats[id] (by simp)
        rw [List.getElem?_eq_getElem hx, this, Nat.zero_add]
      rw [h2] at h1
      simp [h1]
    have hlt : Nat.ble 1000 id = false := by
      cases hb : Nat.ble 1000 id with
      | false => rfl
      | true => have := Nat.le_of_ble_eq_true hb; omega
    simp only [renρ, this, hlt]
    exact hinv.anch id hid

theorem Ent'.sat {m : List Nat} {st st' : St} {a : Act} {w : World} (hk : cx.k ≤ 300) (h : Ent' cx.k m st st') (hs : Sat cx st a w) : Sat cx st' a w := by
  obtain ⟨ρ, S, he, hbs, hinv, hdf⟩ := hs
  obtain ⟨ρ', h1, h2, h3, h4⟩ := h.sat' hk he hbs hinv hdf
  exact ⟨ρ', S, h1, h2, h3, h4⟩
end
end Go.Eng

/-! part Snd14b -/
namespace Go.Eng
open Go.RowKit
open Classical

theorem wpIn_loop_ghost {F : Fence} {n : Nat} {P : Program} {Q : Exit → Act → World → Prop} {a : Act} {w : World} {c : Code} (I : Nat → Act → World → Prop) (n₀ : Nat) (h₀ : I n₀ a w)
    (round : ∀ k a w, I k a w → c.wpIn F n P (Exit.then (fun a' w' => ∃ k', k' < k ∧ I k' a' w') Q) a w) : (Code.loop c).wpIn F n P Q a w := by
  refine wpIn_loop (fun a w => ∃ n, I n a w) (fun a w => leastOf (fun n => I n a w)) ⟨n₀, h₀⟩ ?_
  intro a w hI
  refine wpIn_mono (round _ a w (leastOf_spec hI).1) ?_
  intro e a' w' hq
  cases e with
  | normal =>
    obtain ⟨n', hlt, hI'⟩ := hq
    exact show (∃ n, I n a' w') ∧ leastOf (fun n => I n a' w') < leastOf (fun n => I n a w) from ⟨⟨n', hI'⟩, Nat.lt_of_le_of_lt ((leastOf_spec ⟨n', hI'⟩).2 n' hI') hlt⟩
  | exit id => exact hq
  | goto l => exact hq
  | ret => exact hq
  | panic ch => exact hq
  | outgrown => exact hq

theorem callsIn_n {r : Option Nat} {n m : Nat} {P : Program} {f : FuncId} {args : Array Value} {w : World} {R : Ending → World → Prop} (h : CallsIn Fence.wide m P f args w R) : CallsIn (FF r) n P f args w R :=
  ⟨trivial, fun cs _ => h.2 cs (room_wide _)⟩

section
variable {ops : Array Oper} {st : St} {ρ : Nat → Value} {S : Nat → Prop} {w w' : World} {a : Act}

theorem EnvOk.ids {n : Nat} {env : List Ent} {ch : List Chunk} {bs : List BEnt} {ids ids' : List Nat} (h : EnvOk ops ⟨n, env, ch, bs, ids⟩ ρ a) : EnvOk ops ⟨n, env, ch, bs, ids'⟩ ρ a := ⟨h.size, h.ent, h.ok, h.cl, h.bent, h.bcl⟩
theorem EnvOk.tmps {a' : Act} (h : EnvOk ops st ρ a) (ht : a'.tmps = a.tmps) : EnvOk ops st ρ a' :=
  ⟨by rw [ht]; exact h.size, fun d e h1 h2 => by rw [ht]; exact h.ent d e h1 h2, h.ok, h.cl, fun e h1 => by rw [ht]; exact h.bent e h1, h.bcl⟩
theorem MemOk.ids {n n' : Nat} {env env' : List Ent} {ch : List Chunk} {bs : List BEnt} {ids ids' : List Nat} (h : MemOk ⟨n, env, ch, bs, ids⟩ ρ S w) : MemOk ⟨n', env', ch, bs, ids'⟩ ρ S w := ⟨h.ok, h.cells, h.sep, h.out, h.lt, h.ccl⟩
theorem Inv.ids {cx : Ctx} {n n' : Nat} {env env' : List Ent} {ch : List Chunk} {bs : List BEnt} {ids ids' : List Nat} (h : Inv cx ⟨n, env, ch, bs, ids⟩ ρ S w) : Inv cx ⟨n', env', ch, bs, ids'⟩ ρ S w := ⟨h.mem.ids, h.frm, h.size, h.os, h.tape, h.output, h.kle, h.anch, h.yl, h.one, h.sf⟩
theorem DefOk.ids {cx : Ctx} {n : Nat} {env env' : List Ent} {ch : List Chunk} {bs : List BEnt} {ids ids' : List Nat} {dl : List Deferred} (h : DefOk cx ⟨n, env, ch, bs, ids⟩ ρ S w dl) : DefOk cx ⟨n, env', ch, bs, ids'⟩ ρ S w dl := h

theorem noYk_get : ∀ {ch : List Chunk}, noYk ch = true → ∀ id l go n, chGet ch id ≠ .yk l go n
  | [], _, id, l, go, n => by cases id <;> simp [chGet]
  | c :: r, h, id, l, go, n => by
    have h1 : (∀ l go n, c ≠ .yk l go n) ∧ noYk r = true := by
      unfold noYk at h
      split at h
      · cases h
      · rename_i h2; exact ⟨fun l go n e => h2 l go n e, h⟩
    cases id with
    | zero => exact h1.1 l go n
    | succ id => exact noYk_get h1.2 id l go n

theorem Inv.stab {cx : Ctx} (hny : ∀ id l go n, chGet st.ch id ≠ .yk l go n) (h : Inv cx st ρ S w) (hS : ∀ b, S b → w'.heap[b]? = w.heap[b]?) (hown : ∀ i b, i < st.ch.length → ownBlk (chGet st.ch i) (ρ i) = some b → w'.heap[b]? = w.heap[b]?) (hF : ∀ b, cx.F b → w'.heap[b]? = w.heap[b]?)
    (hsz : w.heap.size ≤ w'.heap.size) (hos : w'.os = w.os) (htp : w'.tape = w.tape) (hou : w'.output = w.output) : Inv cx st ρ S w' :=
  ⟨h.mem.stab hS hown hsz, fun b hb => by obtain ⟨h1, h2, h3⟩ := h.frm b hb; exact ⟨h1, (hF b hb).trans h2, h3⟩, Nat.le_trans h.size hsz, hos.trans h.os, htp.trans h.tape, hou.trans h.output, h.kle, h.anch, fun id l go n e => absurd e (hny id l go n), h.one, h.sf⟩

/-- the loop's left sides -/
theorem EnvOk.put1 {n : Nat} {env : List Ent} {ch : List Chunk} {a : Act} {p : Nat} {s : SV} (he : EnvOk ops ⟨n, env, ch, [], []⟩ ρ a) (hpn : p < n) (hs : svOk ch s) :
    EnvOk ops ⟨n, ⟨p, [], s⟩ :: env, ch, [], []⟩ ρ (a.put (some p) (den ρ s)) := by
  have hsz : p < a.tmps.size := by rw [he.size]; exact hpn
  refine ⟨by simp only [Act.put, Array.size_setIfInBounds]; exact he.size, fun d e hl hj => ?_, fun d e hl hc => ?_, fun d e hl => ?_, fun e h => by simp at h, fun e h => by simp at h⟩
  · simp only [lookE_cons] at hl
    rw [put_get hsz]
    split at hl
    · rename_i hd
      have hd : p = d := hd
      simp only [Option.some.injEq] at hl
      subst hl
      rw [if_pos hd.symm, if_pos (show holds _ [] from trivial)]
    · rename_i hd
      have hd : ¬ p = d := hd
      rw [if_neg (fun h => hd h.symm)]; exact he.ent d e hl hj
  · simp only [lookE_cons] at hl
    split at hl
    · simp only [Option.some.injEq] at hl; subst hl; exact hs
    · exact he.ok d e hl hc
  · simp only [lookE_cons] at hl
    split at hl
    · simp only [Option.some.injEq] at hl; subst hl; intro q hq; simp at hq
    · exact he.cl d e hl

theorem chGet_snoc_cases' (chs : List Chunk) (c : Chunk) (i : Nat) : (i < chs.length ∧ chGet (snocL chs c) i = chGet chs i) ∨ (i = chs.length ∧ chGet (snocL chs c) i = c) ∨ chGet (snocL chs c) i = .dead := by
  rcases Nat.lt_trichotomy i chs.length with h | h | h
  · exact .inl ⟨h, chGet_snoc_old _ _ _ h⟩
  · subst h; exact .inr (.inl ⟨rfl, chGet_snoc_new _ _⟩)
  · exact .inr (.inr (chGet_out _ _ (by rw [snocL_length]; omega)))

theorem rd_add {n : Nat} {env : List Ent} {ch : List Chunk} {a : Act} {c : Chunk} {u : Value} (hm : MemOk ⟨n, env, ch, [], []⟩ ρ S w) (he : EnvOk ops ⟨n, env, ch, [], []⟩ ρ a)
    (hc : ChunkOk [] S w (upd ρ ch.length u) c u) (hce : cellsIn c = []) (hcd : condsOf c = []) (hown : ∀ v, ownBlk c v = none) :
    MemOk ⟨n, env, snocL ch c, [], []⟩ (upd ρ ch.length u) S w ∧ EnvOk ops ⟨n, env, snocL ch c, [], []⟩ (upd ρ ch.length u) a :=
  ⟨MemOk.addCh hm rfl rfl hc (by rw [hce]; simp [svOkL]) (by rw [hcd]; intro p hp; simp at hp) (fun b e => by rw [hown] at e; cases e),
   he.rel rfl rfl rfl (ChRel.ofExt (ChExt.snoc _ _)) fun id hid => upd_ne _ _ (Nat.ne_of_lt hid)⟩

theorem repYs_len {S : Nat → Prop} {w : World} : ∀ {ds : List DV} {us : List Value}, repYs S w ds us → ds.length = us.length
  | [], [], _ => rfl
  | d :: ds, u :: us, h => by simp only [List.length_cons, repYs_len h.2]
  | [], _ :: _, h => h.elim
  | _ :: _, [], h => h.elim
theorem repYs_mono {S S' : Nat → Prop} {w w' : World} (hS : ∀ b, S b → S' b) (hw : ∀ b, S b → w'.heap[b]? = w.heap[b]?) : ∀ {ds : List DV} {us : List Value}, repYs S w ds us → repYs S' w' ds us
  | [], [], _ => trivial
  | d :: ds, u :: us, h => ⟨by
      have := h.1
      cases d with
      | v x => exact this
      | sl α inh sz enc xs => exact DRep.mono hS hw this
      | ptr cells => exact DRep.mono hS hw this, repYs_mono hS hw h.2⟩
  | [], _ :: _, h => h.elim
  | _ :: _, [], h => h.elim

structure PutOk (ops : Array Oper) (S : Nat → Prop) (w : World) (n : Nat) (ch : List Chunk) (ρ : Nat → Value) (env1 : List Ent) (ch1 : List Chunk) (ρ1 : Nat → Value) (tmps : Array Value) : Prop where
  mem : MemOk ⟨n, env1, ch1, [], []⟩ ρ1 S w
  env : EnvOk ops ⟨n, env1, ch1, [], []⟩ ρ1 { tmps := tmps, defers := [] }
  len : ch.length ≤ ch1.length
  old : ∀ id, id < ch.length → ρ1 id = ρ id
  nyk : ∀ id l go k, chGet ch1 id ≠ .yk l go k
  own : ∀ j b, j < ch1.length → ownBlk (chGet ch1 j) (ρ1 j) = some b → j < ch.length ∧ ownBlk (chGet ch j) (ρ j) = some b

theorem putPsK_sound : ∀ (ps : List Nat) (ds : List DV) (us : List Value) (env : List Ent) (ch : List Chunk) (ρ : Nat → Value) (n : Nat) (a : Act) (K : List Ent → List Chunk → Prop), putPsK ps ds env ch K → repYs S w ds us →
    MemOk ⟨n, env, ch, [], []⟩ ρ S w → EnvOk ops ⟨n, env, ch, [], []⟩ ρ a → (∀ p ∈ ps, p < n) → (∀ id l go k, chGet ch id ≠ .yk l go k) →
    ∃ env1 ch1 ρ1, K env1 ch1 ∧ PutOk ops S w n ch ρ env1 ch1 ρ1 ((ps.zip us).foldl (fun t (p, v) => t.setIfInBounds p v) a.tmps)
  | [], [], [], env, ch, ρ, n, a, K, h, _, hm, he, _, hny => ⟨env, ch, ρ, h, hm, he.tmps rfl, Nat.le_refl _, fun _ _ => rfl, hny, fun j b hj e => ⟨hj, e⟩⟩
  | p :: ps, d :: ds, u :: us, env, ch, ρ, n, a, K, h, hr, hm, he, hp, hny => by
    have hpn := hp p (by simp)
    obtain ⟨hr1, hr2⟩ := hr
    have step : ∀ (c : Chunk) (s : SV), ChunkOk [] S w (upd ρ ch.length u) c u → cellsIn c = [] → condsOf c = [] → (∀ v, ownBlk c v = none) → noY c = true → svOk (snocL ch c) s → den (upd ρ ch.length u) s = u → putPsK ps ds (⟨p, [], s⟩ :: env) (snocL ch c) K →
        ∃ env1 ch1 ρ1, K env1 ch1 ∧ PutOk ops S w n ch ρ env1 ch1 ρ1 (((p :: ps).zip (u :: us)).foldl (fun t (p, v) => t.setIfInBounds p v) a.tmps) := by
      intro c s hc hce hcd hown hny' hs hd h
      obtain ⟨hm1, he1⟩ := rd_add hm he hc hce hcd hown
      have he2 := he1.put1 hpn hs
      rw [hd] at he2
      obtain ⟨env1, ch1, ρ1, hK, hP⟩ := putPsK_sound ps ds us _ _ _ n _ K h hr2 ⟨hm1.ok, hm1.cells, hm1.sep, hm1.out, hm1.lt, hm1.ccl⟩ he2 (fun q hq => hp q (by simp [hq])) (fun id l go k e => by
        rcases chGet_snoc_cases' ch c id with ⟨_, h2⟩ | ⟨_, h2⟩ | h2
        · rw [h2] at e; exact hny id l go k e
        · rw [h2] at e; subst e; simp [noY] at hny'
        · rw [h2] at e; cases e)
      refine ⟨env1, ch1, ρ1, hK, hP.mem, hP.env, ?_, fun id hid => ?_, hP.nyk, fun j b hj e => ?_⟩
      · have := hP.len; rw [snocL_length] at this; omega
      · exact (hP.old id (by rw [snocL_length]; omega)).trans (upd_ne _ _ (Nat.ne_of_lt hid))
      · obtain ⟨h1, h2⟩ := hP.own j b hj e
        rw [snocL_length] at h1
        by_cases hlt : j < ch.length
        · rw [chGet_snoc_old _ _ _ hlt, upd_ne _ _ (Nat.ne_of_lt hlt)] at h2; exact ⟨hlt, h2⟩
        · have e' : j = ch.length := by omega
          subst e'
          rw [chGet_snoc_new, hown] at h2; cases h2
    cases d with
    | v x =>
      simp only [putPsK] at h
      have hr1 : u = x := hr1
      subst hr1
      have he2 := he.put1 (s := .v u) hpn (by simp [svOk])
      simp only [den] at he2
      exact putPsK_sound ps ds us _ _ _ n _ K h hr2 ⟨hm.ok, hm.cells, hm.sep, hm.out, hm.lt, hm.ccl⟩ he2 (fun q hq => hp q (by simp [hq])) hny
    | sl α inh sz enc xs =>
      simp only [putPsK, snocK_eq] at h
      exact step (.rd α inh sz enc xs) (.sl ch.length) hr1 rfl rfl (fun _ => rfl) rfl (by simp [svOk, snocL_length]) (by simp only [den, upd_same]) h
    | ptr cells =>
      simp only [putPsK, snocK_eq] at h
      have hr1 : DRep S w (.ptr cells) u := hr1
      refine step (.rp [] cells) (.bx ch.length 0) (fun _ => hr1) rfl rfl (fun _ => rfl) rfl (by simp [svOk, snocL_length]) ?_ h
      cases hr1 with
      | ptr b o cell _ _ _ => simp only [den, upd_same, Nat.add_zero]
  | [], _ :: _, _, _, _, _, _, _, _, h, _, _, _, _, _ => by simp [putPsK] at h
  | _ :: _, [], _, _, _, _, _, _, _, h, _, _, _, _, _ => by simp [putPsK] at h
  | _ :: _, _ :: _, [], _, _, _, _, _, _, _, h, _, _, _, _ => by simp [repYs] at h
  | [], [], _ :: _, _, _, _, _, _, _, _, h, _, _, _, _ => by simp [repYs] at h

theorem envK_ok {k : Nat} {ch ch' : List Chunk} (hk' : k ≤ ch'.length) : ∀ {env : List Ent}, envK k env = true → ∀ d e, lookE env d = some e → e.cond = [] ∧ idsK k e.sv = true
  | [], _, d, e, h => by simp [lookE] at h
  | ⟨s, L, v⟩ :: r, hK, d, e, h => by
    cases L with
    | cons x y => simp [envK] at hK
    | nil =>
      simp only [envK] at hK
      split at hK
      · rename_i hv
        rw [lookE_cons] at h
        split at h
        · simp only [Option.some.injEq] at h; subst h; exact ⟨rfl, hv⟩
        · exact envK_ok (ch := ch) hk' hK d e h
      · cases hK

mutual
theorem idsK_den {k : Nat} {ρ ρ' : Nat → Value} (h : ∀ id, id < k → ρ' id = ρ id) : ∀ s, idsK k s = true → den ρ' s = den ρ s
  | .v _, _ => rfl
  | .bx id off, hs => by simp only [idsK] at hs; simp only [den, h id (blt_lt hs)]
  | .el _ _ _ _, hs => by simp [idsK] at hs
  | .sl id, hs => by simp only [idsK] at hs; simp only [den, h id (blt_lt hs)]
  | .agg l, hs => by simp only [idsK] at hs; simp only [den, idsKL_den h l hs]
  | .tup l, hs => by simp only [idsK] at hs; simp only [den, idsKL_den h l hs]
  | .fn _ l, hs => by simp only [idsK] at hs; simp only [den, idsKL_den h l hs]
  | .mv _ l1 l2, hs => by
    simp only [idsK] at hs
    split at hs
    · rename_i h1; simp only [den, idsKL_den h l1 h1, idsKL_den h l2 hs]
    · cases hs
  | .junk, _ => rfl
theorem idsKL_den {k : Nat} {ρ ρ' : Nat → Value} (h : ∀ id, id < k → ρ' id = ρ id) : ∀ l, idsKL k l = true → denL ρ' l = denL ρ l
  | [], _ => rfl
  | s :: r, hs => by
    simp only [idsKL] at hs
    split at hs
    · rename_i h1; simp only [denL, idsK_den h s h1, idsKL_den h r hs]
    · cases hs
end
mutual
theorem idsK_ok {k : Nat} {ch : List Chunk} (hk : k ≤ ch.length) : ∀ s, idsK k s = true → svOk ch s
  | .v _, _ => by simp [svOk]
  | .bx id off, hs => by simp only [idsK] at hs; simp only [svOk]; have := blt_lt hs; omega
  | .el _ _ _ _, hs => by simp [idsK] at hs
  | .sl id, hs => by simp only [idsK] at hs; simp only [svOk]; have := blt_lt hs; omega
  | .agg l, hs => by simp only [idsK] at hs; simp only [svOk]; exact idsKL_ok hk l hs
  | .tup l, hs => by simp only [idsK] at hs; simp only [svOk]; exact idsKL_ok hk l hs
  | .fn _ l, hs => by simp only [idsK] at hs; simp only [svOk]; exact idsKL_ok hk l hs
  | .mv _ l1 l2, hs => by
    simp only [idsK] at hs
    simp only [svOk]
    split at hs
    · rename_i h1; exact ⟨idsKL_ok hk l1 h1, idsKL_ok hk l2 hs⟩
    · cases hs
  | .junk, _ => by simp [svOk]
theorem idsKL_ok {k : Nat} {ch : List Chunk} (hk : k ≤ ch.length) : ∀ l, idsKL k l = true → svOkL ch l
  | [], _ => by simp [svOkL]
  | s :: r, hs => by
    simp only [idsKL] at hs
    split at hs
    · rename_i h1; exact ⟨idsK_ok hk s h1, idsKL_ok hk r hs⟩
    · cases hs
end

/-- the frame's own part, at other chunks -/
theorem EnvOk.anch {n k : Nat} {env : List Ent} {ch ch' : List Chunk} {ids ids' : List Nat} {ρ' : Nat → Value} (hK : envK k env = true) (hk : k ≤ ch'.length) (h : EnvOk ops ⟨n, env, ch, [], ids⟩ ρ a) (hρ : ∀ id, id < k → ρ' id = ρ id) : EnvOk ops ⟨n, env, ch', [], ids'⟩ ρ' a := by
  have hg := fun d e => envK_ok (ch := ch) (ch' := ch') hk hK d e
  refine ⟨h.size, fun d e hl hj => ?_, fun d e hl _ => idsK_ok hk _ (hg d e hl).2, fun d e hl => ?_, fun e h => by simp at h, fun e h => by simp at h⟩
  · rw [h.ent d e hl hj, (hg d e hl).1]
    simp only [holds, if_true]
    rw [idsK_den hρ _ (hg d e hl).2]
  · rw [(hg d e hl).1]; intro p hp; simp at hp
end
end Go.Eng

/-! part Snd14c -/
namespace Go.Eng
open Go.RowKit
open Classical

theorem CxOk.triv {cf : Cfg} {cx : Ctx} (h0 : cf.yN = 0) (hJ : ∀ go U k w, cx.J go U k w = True) : CxOk cf cx :=
  ⟨fun go U k W W' _ _ _ _ _ _ => by rw [hJ]; trivial, fun h => by omega, fun U k W1 _ hk => by omega⟩

def roundCode : Exit → Option Code
  | .ret => some .ret
  | .exit id => some (.exit id)
  | .goto l => some (.goto l)
  | _ => none

theorem rangeFunc_sound {cf : Cfg} (hcf : CfgOk cf) {cx : Ctx} (hk : cx.k ≤ 300) {n : Nat} {f : Operand} {ps : Array Tmp} {assign body : Code} {st : St} {K : Exit → St → Prop} {Q : Exit → Act → World → Prop} {a : Act} {w : World}
    (IHa : ∀ (cx' : Ctx) (l : Nat) (st' : St) (K' : Exit → St → Prop) (Q' : Exit → Act → World → Prop), CxOk { cf with rd := true, yN := 0 } cx' → cx'.k ≤ 300 → exec { cf with rd := true, yN := 0 } cx'.k assign st' K' →
      (∀ e st'' a w, K' e st'' → Sat cx' st'' a w → Q' e a w) → ∀ a w, Sat cx' st' a w → assign.wpIn (FF (some l)) 0 cf.P Q' a w)
    (IHb : ∀ (cx' : Ctx) (l : Nat) (st' : St) (K' : Exit → St → Prop) (Q' : Exit → Act → World → Prop), CxOk { cf with rd := true, yN := 0 } cx' → cx'.k ≤ 300 → exec { cf with rd := true, yN := 0 } cx'.k body st' K' →
      (∀ e st'' a w, K' e st'' → Sat cx' st'' a w → Q' e a w) → ∀ a w, Sat cx' st' a w → body.wpIn (FF (some l)) 0 cf.P Q' a w)
    (h : exec cf cx.k (.rangeFunc f ps assign body) st K) (hQ : ∀ e st' a w, K e st' → Sat cx st' a w → Q e a w) (hs : Sat cx st a w) : (Code.rangeFunc f ps assign body).wpIn (FF none) n cf.P Q a w := by
  simp only [exec] at h
  split at h
  case h_2 => exact h.elim
  rename_i g caps _ hgv
  split at h
  case h_2 => exact h.elim
  rename_i hg
  obtain ⟨N, dvs, k0, env0, ι, mk, cnt, hIter, hvl, hkk, hK0, hny, hkl, hk3, hps, ⟨m0, i00, hc0, hent0⟩, hround, hend⟩ := h
  have hkk := Nat.le_of_ble_eq_true hkk
  have hpn : ∀ p ∈ ps.toList, p < st.n := fun p hp => by have := List.all_eq_true.1 hps p hp; exact blt_lt this
  obtain ⟨ρ, S, he, hbs, hinv, hdf⟩ := hs
  obtain ⟨hgv1, _⟩ := getV_sound (he #[]) (L := []) trivial hgv
  simp only [den] at hgv1
  obtain ⟨vals, hrep, hIt⟩ := hIter ρ S w hinv.mem
  have hvl : ∀ j, j < N → (vals j).length = ps.size := fun j hj => (repYs_len (hrep j hj)).symm.trans (hvl j)
  obtain ⟨ρ1, he1, hbs1, hinv1, hdf1⟩ := hent0.sat' hk he hbs hinv hdf
  -- the numbers of the blocks
  let D := w.heap.size
  let l := w.heap.size + 1
  let rec' : FuncId → LoopState → Option Code → Loop := fun fn s pe => { state := s, pending := pe, fn, tmps := a.tmps, params := ps, assign, body, defers := w.heap.size }
  let mark : List Deferred := [{ target := .collected w.heap.size, args := #[] }]
  let lb := (denL ρ caps).toArray
  refine wpIn_rangeFunc (F := FF none) fun fn _ => ?_
  let W1 := (w.alloc (.deferred (some []))).alloc (.loop (rec' fn .ready none))
  have hL1 : W1.heap[l]? = some (.loop (rec' fn .ready none)) := by
    have := World.alloc_heap_new (w.alloc (.deferred (some []))) (.loop (rec' fn .ready none)); rwa [World.size_alloc] at this
  have hD1 : W1.heap[D]? = some (.deferred (some [])) := (Below.heap_alloc _ _ _ (by simp [D])).trans (World.alloc_heap_new w _)
  have hW1 : Below w.heap.size w W1 := ((Below.refl _ w).alloc (Nat.le_refl _) _).alloc (by simp) _
  have hW1s : W1.heap.size = w.heap.size + 2 := by simp [W1]
  -- what is said between two rounds
  let Core : (Nat → Prop) → (Nat → Value) → (Nat → Prop) → World → LoopState → Option Code → List Ent → List Chunk → Prop := fun U ρ' S' W s pe env ch =>
    InvD cx ⟨st.n, env, ch, [], []⟩ ρ' S' W (mark ++ a.defers) ∧ (∀ id l go n, chGet ch id ≠ .yk l go n) ∧ (∀ b, S b → ∀ j, j < ch.length → ownBlk (chGet ch j) (ρ' j) ≠ some b) ∧ (∀ b, b < W1.heap.size → U b) ∧ (∀ b, S' b → U b) ∧ (∀ j b, j < ch.length → ownBlk (chGet ch j) (ρ' j) = some b → U b) ∧
      W.heap[l]? = some (.loop (rec' fn s pe)) ∧ ¬ S' l ∧ (∀ j, j < ch.length → ownBlk (chGet ch j) (ρ' j) ≠ some l) ∧ (∀ id, id < k0 → ρ' id = ρ1 id) ∧ k0 ≤ ch.length ∧ (∀ b, U b → b < W.heap.size) ∧ ∀ b, S b → W.heap[b]? = w.heap[b]?
  let J : Bool → (Nat → Prop) → Nat → World → Prop := fun go U k W => match go with
    | true => ∃ i ρ' S', cnt i = k ∧ Core U ρ' S' W .ready none env0 (mk i)
    | false => ∃ (e : Exit) (c : Code) (ch : List Chunk) (ids : List Nat) (ρ' : Nat → Value) (S' : Nat → Prop), roundCode e = some c ∧ K e ⟨st.n, env0, ch, [], ids⟩ ∧ Core U ρ' S' W .done (some c) env0 ch
  have hinj : ∀ {x y : List Nat}, x.map (fun D => ({ target := .collected D, args := #[] } : Deferred)) = y.map (fun D => ({ target := .collected D, args := #[] } : Deferred)) → x = y := by
    intro x y hxy
    exact (List.map_inj_right (fun a b e => by simpa using e)).1 hxy
  have hDsS : ∀ Ds : List Nat, mark ++ a.defers = (Ds.map fun D => ({ target := .collected D, args := #[] } : Deferred)) ++ cx.dd → ∀ D' ∈ Ds, ¬ S D' := by
    intro Ds d1 D' hD' hS
    obtain ⟨Ds0, e1, _, e0, e2⟩ := hdf1
    have hDs : Ds.map (fun D => ({ target := .collected D, args := #[] } : Deferred)) = (w.heap.size :: Ds0).map (fun D => ({ target := .collected D, args := #[] } : Deferred)) := by
      have := d1
      rw [e1] at this
      simp only [mark, ← List.append_assoc] at this
      have := List.append_cancel_right this
      simpa using this.symm
    rw [hinj hDs] at hD'
    rcases List.mem_cons.1 hD' with rfl | hD'
    · have := hinv.mem.lt _ hS; omega
    · exact (e2 D' hD').2.2.1 hS
  have hSl : ¬ S l := fun h => by have := hinv.mem.lt _ h; simp only [l] at this; omega
  have coreStab : ∀ {U ρ' S' W s pe env ch W'}, Core U ρ' S' W s pe env ch → (∀ b, U b → W'.heap[b]? = W.heap[b]?) → W.heap.size ≤ W'.heap.size → W'.os = W.os → W'.tape = W.tape → W'.output = W.output → Core U ρ' S' W' s pe env ch := by
    rintro U ρ' S' W s pe env ch W' ⟨h1, h2, h3, h4, h5, h6, h7, h8, h9, h10, h11, h12, h13⟩ hU hsz hos htp hou
    have hF : ∀ b, cx.F b → W'.heap[b]? = W.heap[b]? := fun b hb => hU b (h4 b (by have := (h1.inv.frm b hb).1; have := hinv.size; omega))
    refine ⟨⟨h1.inv.stab h2 (fun b hb => hU b (h5 b hb)) (fun j b hj e => hU b (h6 j b hj e)) hF hsz hos htp hou, ?_⟩, h2, h3, h4, h5, h6, (hU l (h4 l (by simp [W1, l]))).trans h7, h8, h9, h10, h11, fun b hb => Nat.lt_of_lt_of_le (h12 b hb) hsz, fun b hb => (hU b (h4 b (by have := hinv.mem.lt b hb; simp [W1]; omega))).trans (h13 b hb)⟩
    obtain ⟨Ds, d1, dn, d0, d2⟩ := h1.df
    obtain ⟨Ds0, e1, _, e0, e2⟩ := hdf1
    have hDs : Ds.map (fun D => ({ target := .collected D, args := #[] } : Deferred)) = (w.heap.size :: Ds0).map (fun D => ({ target := .collected D, args := #[] } : Deferred)) := by
      have := d1
      rw [e1] at this
      simp only [mark, ← List.append_assoc] at this
      have := List.append_cancel_right this
      simpa using this.symm
    have hDs := hinj hDs
    refine ⟨Ds, d1, dn, d0, fun D' hD' => ?_⟩
    obtain ⟨g1, g2, g3, g4⟩ := d2 D' hD'
    refine ⟨(hU D' (h4 D' ?_)).trans g1, g2, g3, g4⟩
    rw [hDs] at hD'
    rcases List.mem_cons.1 hD' with rfl | hD'
    · show w.heap.size < W1.heap.size; omega
    · have := (Array.getElem?_eq_some_iff.1 (e2 D' hD').1).1; omega
  have hstab : ∀ go, Stab (J go) := by
    intro go U k W W' hJ hU hsz hos htp hou
    cases go with
    | true =>
      obtain ⟨i, ρ', S', h1, h2⟩ := hJ
      exact ⟨i, ρ', S', h1, coreStab h2 hU hsz hos htp hou⟩
    | false =>
      obtain ⟨e, c, ch, ids, ρ', S', h1, h2, h3⟩ := hJ
      exact ⟨e, c, ch, ids, ρ', S', h1, h2, coreStab h3 hU hsz hos htp hou⟩
  refine ⟨l, mark, W1, { target := .fn (.func g) lb, args := #[.func (.yield l) #[] #[]] }, W1, g, #[.func (.yield l) #[] #[]] ++ lb, W1, run_enterLoop_outer _ _ _ _ _, ?_, fun _ _ => trivial, ?_, fun h0 => by simp [FF, Fence.wide] at h0, callsIn_n (m := 0) ?_⟩
  · simp only [resolve, hgv1]
    simp [go_sem, lb]
  · have := hcf.fns g (hasN_mem hg) (#[.func (.yield l) #[] #[]] ++ lb) W1
    simp [invoke, go_sem] at this ⊢
    exact this
  -- the iterator
  have hkl := fun i => Nat.le_of_ble_eq_true (hkl i)
  have hk3 := Nat.le_of_ble_eq_true hk3
  have hlW : l < W1.heap.size := by simp [W1, l]
  have putl : ∀ {U ρ' S' W s pe ch}, Core U ρ' S' W s pe env0 ch → ∀ o ids, InvD cx ⟨st.n, env0, ch, [], ids⟩ ρ' S' (W.putObj l o) (mark ++ a.defers) := by
    rintro U ρ' S' W s pe ch ⟨h1, h2, h3, h4, h5, h6, h7, h8, h9, h10, h11, h12, h13⟩ o ids
    refine ⟨(h1.inv.stab h2 (fun b hb => World.putObj_heap_other (r := l) (fun e => h8 (e ▸ hb))) (fun j b hj e => World.putObj_heap_other (r := l) (fun e' => h9 j hj (e' ▸ e))) (fun b hb => World.putObj_heap_other (r := l) ?_) (by simp) rfl rfl rfl).ids, ?_⟩
    · have := (h1.inv.frm b hb).1; have := hinv.size; simp only [l]; omega
    · obtain ⟨Ds, d1, dn, d0, d2⟩ := h1.df
      refine ⟨Ds, d1, dn, d0, fun D' hD' => ?_⟩
      obtain ⟨g1, g2, g3, g4⟩ := d2 D' hD'
      have hne : D' ≠ l := fun e => by rw [e, h7] at g1; cases g1
      exact ⟨(World.putObj_heap_other hne).trans g1, g2, g3, g4⟩
  have envAt : ∀ {ρ' : Nat → Value} {ch : List Chunk} (ids : List Nat), k0 ≤ ch.length → (∀ id, id < k0 → ρ' id = ρ1 id) → ∀ ops, EnvOk ops ⟨st.n, env0, ch, [], ids⟩ ρ' a :=
    fun ids hk' hρ ops => EnvOk.anch hK0 hk' (he1 ops) hρ
  refine CallsIn.mono (hIt l J W1 hinv.mem.lt (fun b hb => Below.block hW1 b hb) hW1.size rfl rfl rfl hstab ?yields ?start) ?after
  case start =>
    have hown : ∀ j b, j < (mk i00).length → ownBlk (chGet (mk i00) j) (ρ1 j) = some b → b < w.heap.size := fun j b hj e => ownBlk_lt (hinv1.mem.ok j hj) e
    refine ⟨fun b => b < W1.heap.size, fun _ hb => hb, i00, ρ1, S, hc0, ⟨?_, ?_⟩, noYk_get (hny i00), fun b hb j hj e => hinv1.mem.out j b hj e hb, fun _ hb => hb, fun b hb => by have := hinv1.mem.lt b hb; omega, fun j b hj e => by have := hown j b hj e; omega, hL1, fun hS => ?_, fun j hj e => ?_, fun _ _ => rfl, hkl i00, fun _ hb => hb, fun b hb => Below.block hW1 b (hinv1.mem.lt b hb)⟩
    · exact hinv1.stab (noYk_get (hny i00)) (fun b hb => Below.block hW1 b (hinv1.mem.lt b hb)) (fun j b hj e => Below.block hW1 b (hown j b hj e)) (fun b hb => Below.block hW1 b (by have := (hinv1.frm b hb).1; have := hinv.size; omega)) hW1.size rfl rfl rfl
    · obtain ⟨Ds, d1, dn, d0, d2⟩ := hdf1
      refine ⟨w.heap.size :: Ds, by rw [d1]; rfl, List.nodup_cons.2 ⟨fun hD => by have := (Array.getElem?_eq_some_iff.1 (d2 _ hD).1).1; omega, dn⟩, fun _ => noYk_get (hny i00), fun D' hD' => ?_⟩
      rcases List.mem_cons.1 hD' with rfl | hD'
      · exact ⟨hD1, hinv.size, fun hS => by have := hinv1.mem.lt _ hS; omega, fun j hj e => by have := hown j _ hj e; omega⟩
      · obtain ⟨g1, g2, g3, g4⟩ := d2 D' hD'
        exact ⟨(Below.block hW1 D' (Array.getElem?_eq_some_iff.1 g1).1).trans g1, g2, g3, g4⟩
    · have := hinv1.mem.lt _ hS; simp only [l] at this; omega
    · have := hown j _ hj e; simp only [l] at this; omega
  case after =>
    rintro e W2 ⟨⟨v, rfl⟩, ⟨U, i, ρ', S', hci, hcore⟩ | ⟨U, k, _, e', c, ch, ids, ρ', S', hrc, hKe, hcore⟩⟩
    · have hl := hcore.2.2.2.2.2.2.1
      refine ⟨none, _, run_endLoop (P := cf.P) hl (by simp [rec']), ?_⟩
      have hp := putl hcore (.loop { rec' fn .ready none with state := .exhausted }) (dropL nats (mk i).length)
      exact hQ .normal _ _ _ (hend i hci) ⟨ρ', S', fun ops => (envAt _ hcore.2.2.2.2.2.2.2.2.2.2.1 hcore.2.2.2.2.2.2.2.2.2.1 ops).tmps rfl, rfl, hp.inv, hp.df⟩
    · have hl := hcore.2.2.2.2.2.2.1
      refine ⟨some c, _, run_endLoop (P := cf.P) hl (by simp [rec']), ?_⟩
      have hp := putl hcore (.loop { rec' fn .done (some c) with state := .exhausted }) ids
      have hsat := hQ e' _ { a with defers := mark ++ a.defers } _ hKe ⟨ρ', S', fun ops => (envAt _ hcore.2.2.2.2.2.2.2.2.2.2.1 hcore.2.2.2.2.2.2.2.2.2.1 ops).tmps rfl, rfl, hp.inv, hp.df⟩
      cases e' <;> simp only [roundCode, Option.some.injEq, reduceCtorEq] at hrc
      · subst hrc; exact wpIn_exit hsat
      · subst hrc; exact wpIn_goto hsat
      · subst hrc; exact wpIn_ret hsat
  case yields =>
    rintro U k W ⟨i, ρ', S', hci, hcore⟩ hkN
    obtain ⟨h1, h2, h3, h4, h5, h6, h7, h8, h9, h10, h11, h12, h13⟩ := hcore
    have hr := hround i (by omega)
    rw [hci] at hr
    let S1 : Nat → Prop := fun b => S' b ∨ S b
    have hWs : w.heap.size ≤ W.heap.size := by
      rcases Nat.lt_or_ge W.heap.size w.heap.size with hlt | hge
      · have := h12 _ (h4 W.heap.size (by simp only [W1, World.size_alloc]; omega)); omega
      · exact hge
    have hm1 : MemOk ⟨st.n, env0, mk i, [], []⟩ ρ' S1 W := ⟨fun id hid => ChunkOk.mono (fun b hb => .inl hb) (fun _ _ => rfl) (fun _ _ => rfl) (h1.inv.mem.ok id hid), h1.inv.mem.cells, h1.inv.mem.sep, fun j b hj hb' => by
      rintro (hS | hS)
      · exact h1.inv.mem.out j b hj hb' hS
      · exact h3 b hS j hj hb', fun b hb => by
      rcases hb with hS | hS
      · exact h1.inv.mem.lt b hS
      · have := hinv.mem.lt b hS; omega, h1.inv.mem.ccl⟩
    have hS1l : ¬ S1 l := fun h => h.elim h8 hSl
    have hS1U : ∀ b, S1 b → U b := fun b h => h.elim (h5 b) (fun hS => h4 b (by have := hinv.mem.lt b hS; simp only [W1, World.size_alloc]; omega))
    obtain ⟨env1, ch1, ρp, hr, hP⟩ := putPsK_sound ps.toList (dvs k) (vals k) env0 (mk i) ρ' st.n a _ hr (repYs_mono (fun b hb => .inr hb) h13 (hrep k hkN)) hm1 (envAt [] h11 h10 #[]) hpn h2
    have hy := run_yield (P := cf.P) (args := (vals k).toArray) h7 (by simp [rec', hvl k hkN])
    refine ⟨fn, _, assign, body, hy, roundIn_of_wpIn (F := Fence.wide) trivial ?_⟩
    -- what the round has to keep
    let F1 : Nat → Prop := fun b => b < W.heap.size ∧ ∀ j, j < (mk i).length → ownBlk (chGet (mk i) j) (ρ' j) ≠ some b
    let cx1 : Ctx := { wE := W, F := F1, k := k0, ρ0 := ρ', S0 := S1, J := fun _ _ _ _ => False }
    let W2 := W.putObj l (.loop (rec' fn .busy none))
    let cx2 : Ctx := { cx1 with wE := W2 }
    have hcx1 : CxOk { cf with rd := true, yN := 0 } cx1 := ⟨fun _ _ _ _ _ h _ _ _ _ _ => h, fun h => absurd h (by simp), fun _ _ _ h => h.elim⟩
    have hcx2 : CxOk { cf with rd := true, yN := 0 } cx2 := ⟨fun _ _ _ _ _ h _ _ _ _ _ => h, fun h => absurd h (by simp), fun _ _ _ h => h.elim⟩
    have hlF : F1 l := ⟨h12 l (h4 l hlW), h9⟩
    have hWl : W1.heap.size ≤ W.heap.size := by
      rcases Nat.lt_or_ge W.heap.size W1.heap.size with hlt | hge
      · have := h12 _ (h4 W.heap.size hlt); omega
      · exact hge
    -- behind the round's body
    have next : ∀ (ρ4 : Nat → Value) (S3 : Nat → Prop) (w3 : World) (ch : List Chunk) (s : LoopState) (pe : Option Code), Inv cx2 ⟨st.n, env0, ch, [], []⟩ ρ4 S3 w3 → (∀ id l go n, chGet ch id ≠ .yk l go n) →
        RoundR S U W (w3.putObj l (.loop (rec' fn s pe))) ∧ (∀ b, (b < w3.heap.size ∧ (U b ∨ W.heap.size ≤ b)) → b < (w3.putObj l (.loop (rec' fn s pe))).heap.size ∧ (U b ∨ W.heap.size ≤ b)) ∧
          Core (fun b => b < w3.heap.size ∧ (U b ∨ W.heap.size ≤ b)) ρ4 S3 (w3.putObj l (.loop (rec' fn s pe))) s pe env0 ch := by
      intro ρ4 S3 w3 ch s pe hi4 hny4
      have hsz : W.heap.size ≤ w3.heap.size := by have := hi4.size; simpa [cx2, W2] using this
      have same : ∀ b, F1 b → b ≠ l → w3.heap[b]? = W.heap[b]? := fun b hb hne => (hi4.frm b hb).2.1.trans (World.putObj_heap_other hne)
      have SF : ∀ b, S b → F1 b := fun b hb => ⟨by have := hinv.mem.lt b hb; omega, h3 b hb⟩
      have Sl : ∀ b, S b → b ≠ l := fun b hb e => by have := hinv.mem.lt b hb; simp only [l] at e; omega
      have hS3l : ¬ S3 l := fun h => hS1l (hi4.sf l hlF h)
      have hlo := (hi4.frm l hlF).2.2
      refine ⟨⟨by simpa using hsz, hi4.os, hi4.tape, hi4.output, fun b hb => (World.putObj_heap_other (Sl b hb)).trans (same b (SF b hb) (Sl b hb)), fun b hb hU => ?_⟩, fun b hb => by simpa using hb, ⟨?_, ?_⟩, hny4, fun b hb j hj => (hi4.frm b (SF b hb)).2.2 j hj, fun b hb => ⟨by omega, .inl (h4 b hb)⟩, fun b hb => ⟨hi4.mem.lt b hb, ?_⟩, fun j b hj e => ⟨ownBlk_lt (hi4.mem.ok j hj) e, ?_⟩, World.putObj_heap_same (by have := hlF.1; omega), hS3l, hlo, fun id hid => (hi4.anch id hid).trans (h10 id hid), hi4.kle, fun b hb => by simpa using hb.1, fun b hb => (World.putObj_heap_other (Sl b hb)).trans ((same b (SF b hb) (Sl b hb)).trans (h13 b hb))⟩
      · have hne : b ≠ l := fun e => hU (e ▸ h4 l hlW)
        exact (World.putObj_heap_other hne).trans (same b ⟨hb, fun j hj e => hU (h6 j b hj e)⟩ hne)
      · refine ⟨hi4.mem.stab (fun b hb => World.putObj_heap_other (fun e => hS3l (e ▸ hb))) (fun j b hj e => World.putObj_heap_other (fun e' => hlo j hj (e' ▸ e))) (by simp), fun b hb => ?_, ?_, hi4.os.trans h1.inv.os, hi4.tape.trans h1.inv.tape, hi4.output.trans h1.inv.output, Nat.le_trans hkk hi4.kle, fun id hid => ?_, fun id l go n e => absurd e (hny4 id l go n), fun p q lp gp np lq gq nq e1 _ => absurd e1 (hny4 p lp gp np), fun b hF hS => ?_⟩
        · obtain ⟨g1, g2, g3⟩ := h1.inv.frm b hb
          have hF1 : F1 b := ⟨by have := h1.inv.size; omega, g3⟩
          have hne : b ≠ l := fun e => by have := hinv.size; simp only [l] at e; omega
          exact ⟨g1, (World.putObj_heap_other hne).trans ((same b hF1 hne).trans g2), (hi4.frm b hF1).2.2⟩
        · have := h1.inv.size; simp; omega
        · exact (hi4.anch id (Nat.lt_of_lt_of_le hid hkk)).trans (h1.inv.anch id hid)
        · obtain ⟨g1, g2, g3⟩ := h1.inv.frm b hF
          rcases hi4.sf b ⟨by have := h1.inv.size; omega, g3⟩ hS with h | h
          · exact h1.inv.sf b hF h
          · exact hinv.sf b hF h
      · obtain ⟨Ds, d1, dn, d0, d2⟩ := h1.df
        refine ⟨Ds, d1, dn, fun _ => hny4, fun D' hD' => ?_⟩
        obtain ⟨g1, g2, g3, g4⟩ := d2 D' hD'
        have hne : D' ≠ l := fun e => by rw [e, h7] at g1; cases g1
        have hF1 : F1 D' := ⟨(Array.getElem?_eq_some_iff.1 g1).1, g4⟩
        exact ⟨(World.putObj_heap_other hne).trans ((same D' hF1 hne).trans g1), g2, fun h => (hi4.sf D' hF1 h).elim g3 (hDsS Ds d1 D' hD'), (hi4.frm D' hF1).2.2⟩
      · by_cases hlt : b < W.heap.size
        · by_cases hF1 : F1 b
          · exact .inl (hS1U b (hi4.sf b hF1 hb))
          · refine .inl ?_
            have : ∃ j, j < (mk i).length ∧ ownBlk (chGet (mk i) j) (ρ' j) = some b := by
              by_cases hne : ∃ j, j < (mk i).length ∧ ownBlk (chGet (mk i) j) (ρ' j) = some b
              · exact hne
              · exact absurd ⟨hlt, fun j hj e => hne ⟨j, hj, e⟩⟩ hF1
            obtain ⟨j, hj, e⟩ := this
            exact h6 j b hj e
        · exact .inr (by omega)
      · by_cases hlt : b < W.heap.size
        · refine .inl ?_
          by_cases hne : ∃ j, j < (mk i).length ∧ ownBlk (chGet (mk i) j) (ρ' j) = some b
          · obtain ⟨j', hj', e'⟩ := hne; exact h6 j' b hj' e'
          · exact absurd e ((hi4.frm b ⟨hlt, fun j hj e => hne ⟨j, hj, e⟩⟩).2.2 j hj)
        · exact .inr (by omega)
    have hzip : (ps.zip (vals k).toArray).foldl (fun t (p : Tmp × Value) => t.setIfInBounds p.1 p.2) a.tmps = (ps.toList.zip (vals k)).foldl (fun t (p : Tmp × Value) => t.setIfInBounds p.1 p.2) a.tmps := by
      rw [← Array.foldl_toList]; simp
    have hE1 : ∀ ops, EnvOk ops ⟨st.n, env1, ch1, [], dropL nats ch1.length⟩ ρp { tmps := (ps.zip (vals k).toArray).foldl (fun t (p : Tmp × Value) => t.setIfInBounds p.1 p.2) a.tmps, defers := [] } := fun ops => by
      rw [hzip]
      exact EnvOk.ids ⟨hP.env.size, hP.env.ent, hP.env.ok, hP.env.cl, fun e h => by simp at h, fun e h => by simp at h⟩
    refine IHa cx1 l _ _ _ hcx1 hk3 hr (fun e st1 a1 w1 hKe hs1 => ?_) _ W ⟨ρp, S1, hE1, rfl, ⟨hP.mem.ids, fun b hb => ⟨hb.1, rfl, fun j hj e => let ⟨g1, g2⟩ := hP.own j b hj e; hb.2 j g1 g2⟩, Nat.le_refl _, rfl, rfl, rfl, Nat.le_trans h11 hP.len, fun id hid => hP.old id (Nat.lt_of_lt_of_le hid h11), fun id l go n e => absurd e (hP.nyk id l go n), fun p q lp gp np lq gq nq e1 _ => absurd e1 (hP.nyk p lp gp np), fun _ _ hS => hS⟩, ⟨[], rfl, List.nodup_nil, fun h => absurd rfl h, fun D hD => by simp at hD⟩⟩
    cases e with
    | normal =>
      obtain ⟨ρ2, S2, he2, hbs2, hinv2, hdf2⟩ := hs1
      have hl1 : w1.heap[l]? = some (.loop (rec' fn .ready none)) := (hinv2.frm l hlF).2.1.trans h7
      refine ⟨_, run_beginRound hl1 rfl, ?_⟩
      have hS2l : ¬ S2 l := fun h => hS1l (hinv2.sf l hlF h)
      have hlo := (hinv2.frm l hlF).2.2
      refine IHb cx2 l st1 _ _ hcx2 hk3 hKe (fun e st2 a2 w3 hKe2 hs2 => ?_) a1 _ ⟨ρ2, S2, he2, hbs2, ⟨hinv2.mem.stab (fun b hb => World.putObj_heap_other (fun e => hS2l (e ▸ hb))) (fun j b hj e => World.putObj_heap_other (fun e' => hlo j hj (e' ▸ e))) (by simp), fun b hb => ?_, by have := hinv2.size; simpa [cx2, W2] using this, hinv2.os, hinv2.tape, hinv2.output, hinv2.kle, hinv2.anch, fun id l go n e => ?_, hinv2.one, hinv2.sf⟩, ?_⟩
      rotate_left
      · obtain ⟨g1, g2, g3⟩ := hinv2.frm b hb
        refine ⟨by simpa [cx2, W2] using g1, ?_, g3⟩
        by_cases hbl : b = l
        · subst hbl
          rw [World.putObj_heap_same (by have := (Array.getElem?_eq_some_iff.1 hl1).1; exact this)]
          exact (World.putObj_heap_same hlF.1).symm
        · rw [World.putObj_heap_other hbl]; exact g2.trans (World.putObj_heap_other hbl).symm
      · obtain ⟨_, U', hf, _⟩ := hinv2.yl id l go n e; exact hf.elim
      · obtain ⟨Ds, d1, dn, d0, d2⟩ := hdf2
        refine ⟨Ds, d1, dn, d0, fun D' hD' => ?_⟩
        obtain ⟨g1, g2, g3, g4⟩ := d2 D' hD'
        have hne : D' ≠ l := fun e => by rw [e, hl1] at g1; cases g1
        exact ⟨(World.putObj_heap_other hne).trans g1, by simpa [cx2, W2] using g2, g3, g4⟩
      obtain ⟨ρ3, S3, he3, hbs3, hinv3, hdf3⟩ := hs2
      have hl3 : w3.heap[l]? = some (.loop (rec' fn .busy none)) := (hinv3.frm l hlF).2.1.trans (World.putObj_heap_same hlF.1)
      have hny3 : ∀ id l go n, chGet st2.ch id ≠ .yk l go n := fun id l go n e => by obtain ⟨_, U', hf, _⟩ := hinv3.yl id l go n e; exact hf.elim
      have hi3 : Inv cx2 ⟨st.n, env0, st2.ch, [], []⟩ ρ3 S3 w3 := by
        obtain ⟨n2, env2, ch2, bs2, ids2⟩ := st2
        simp only at hbs3
        subst hbs3
        exact ⟨hinv3.mem.ids, hinv3.frm, hinv3.size, hinv3.os, hinv3.tape, hinv3.output, hinv3.kle, hinv3.anch, hinv3.yl, hinv3.one, hinv3.sf⟩
      have out : ∀ (e : Exit) (c : Code), roundCode e = some c → K e ⟨st.n, env0, st2.ch, [], st2.ids⟩ → ∃ v w', (Instr.endRound l (some c)).run cf.P w3 = .ok v w' ∧ (RoundR S U W w' ∧
          ∃ U', (∀ b, U' b → b < w'.heap.size ∧ (U b ∨ W.heap.size ≤ b)) ∧ ((Ending.returned v = .returned (.bool true) ∧ J true U' (k + 1) w') ∨ (Ending.returned v = .returned (.bool false) ∧ J false U' (k + 1) w'))) := by
        intro e c hc hKK
        obtain ⟨n1, n2, n3⟩ := next ρ3 S3 w3 st2.ch .done (some c) hi3 hny3
        exact ⟨_, _, run_endRound (P := cf.P) (some c) hl3, n1, _, n2, .inr ⟨rfl, e, c, st2.ch, st2.ids, ρ3, S3, hc, hKK, n3⟩⟩
      cases e with
      | normal =>
        obtain ⟨m, i', hci', hent⟩ := hKe2
        have hent : Ent' cx2.k m ⟨st.n, env0, st2.ch, [], []⟩ ⟨st.n, env0, mk i', [], []⟩ := hent
        obtain ⟨ρ4, he4, _, hinv4, _⟩ := hent.sat' (cx := cx2) hk3 (envAt [] hinv3.kle (fun id hid => (hinv3.anch id hid).trans (h10 id hid))) rfl hi3 (dl := []) ⟨[], rfl, List.nodup_nil, fun h => absurd rfl h, fun D hD => by simp at hD⟩
        obtain ⟨n1, n2, n3⟩ := next ρ4 S3 w3 (mk i') .ready none hinv4 (noYk_get (hny i'))
        exact ⟨_, _, run_endRound (P := cf.P) none hl3, n1, _, n2, .inl ⟨rfl, i', ρ4, S3, by omega, n3⟩⟩
      | ret => exact out .ret .ret rfl hKe2
      | exit id => exact out (.exit id) (.exit id) rfl hKe2
      | goto t => exact out (.goto t) (.goto t) rfl hKe2
      | panic ch => exact hKe2.elim
      | outgrown => exact hKe2.elim
    | _ => exact hKe.elim
end Go.Eng
