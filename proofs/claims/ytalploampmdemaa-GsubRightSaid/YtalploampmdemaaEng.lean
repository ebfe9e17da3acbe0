/- The engine, last third: walks as contracts, arguments and results. Own text of this prover. -/
import Derived.Test.YtalploampmdemaaEngB
import Derived.Deep.Slices
import Derived.WideShapes
import Derived.Carry
import Derived.Laws.BytesArg
import Derived.Laws.Strings
import Derived.Laws.StructEq
import Derived.WideLaws
import Derived.Laws.Pointers
import Derived.RecoverIn
import Derived.OpenShut
universe u
/-! part Snd14d -/
namespace Go.Eng
open Go.RowKit
open Classical

theorem ChunkOk.cong {ch : List Chunk} {bs : List BEnt} {S : Nat → Prop} {w : World} {ρ ρ' : Nat → Value} {c : Chunk} {v : Value} (h : ∀ id, id < ch.length → ρ' id = ρ id) (hcl : svOkL ch (cellsIn c)) (hc : ChunkOk bs S w ρ c v) : ChunkOk bs S w ρ' c v := by
  cases c with
  | bx t cells => obtain ⟨b, hb, hg⟩ := hc; exact ⟨b, hb, by rw [denL_congr h cells hcl]; exact hg⟩
  | raw t n sz cells => obtain ⟨b, hb, hg⟩ := hc; exact ⟨b, hb, by rw [denL_congr h cells hcl]; exact hg⟩
  | _ => exact hc


section
variable {cx : Ctx} {cf : Cfg} {ops : Array Oper}

def maskS (xs : Nat → Nat → Value) (id : Nat) (how : Option (List Nat)) (ch : List Chunk) : List Chunk :=
  match Nat.blt id ch.length, how with
  | true, none => setCh ch id .dead
  | true, some mk => (match chGet ch id with
    | .bx t cells => setCh ch id (.bx t (maskC mk (xs id) 0 cells))
    | _ => ch)
  | false, _ => ch
def maskF (xs : Nat → Nat → Value) : List (Nat × Option (List Nat)) → List Chunk → List Chunk
  | [], ch => ch
  | (id, how) :: r, ch => maskF xs r (maskS xs id how ch)

theorem maskK_eq {xs : Nat → Nat → Value} {K : List Chunk → Prop} : ∀ (mks : List (Nat × Option (List Nat))) (ch : List Chunk), maskK mks xs ch K → K (maskF xs mks ch)
  | [], _, h => h
  | (id, how) :: r, ch, h => by
    simp only [maskK] at h
    simp only [maskF, maskS]
    split at h
    · rename_i hid
      rw [hid]
      split at h
      · rw [setK_eq] at h; exact maskK_eq r _ h
      · split at h
        · rename_i mk t cells hc
          rw [setK_eq] at h
          simp only [hc]
          exact maskK_eq r _ h
        · exact h.elim
    · exact h.elim

theorem maskS_len (xs : Nat → Nat → Value) (id : Nat) (how : Option (List Nat)) (ch : List Chunk) : (maskS xs id how ch).length = ch.length := by
  unfold maskS
  split
  · exact setCh_length _ _ _
  · split
    · exact setCh_length _ _ _
    · rfl
  · rfl
/-- a masked chunk: as it was, or dead, or a box whose cells are partly unknown -/
theorem maskS_get (xs : Nat → Nat → Value) (id : Nat) (how : Option (List Nat)) (ch : List Chunk) (i : Nat) :
    chGet (maskS xs id how ch) i = chGet ch i ∨ chGet (maskS xs id how ch) i = .dead ∨ ∃ mk t cells, i = id ∧ chGet ch i = .bx t cells ∧ chGet (maskS xs id how ch) i = .bx t (maskC mk (xs id) 0 cells) := by
  unfold maskS
  split
  · rename_i hid
    rw [chGet_setCh _ _ _ _ (blt_lt' hid)]
    split
    · exact .inr (.inl rfl)
    · exact .inl rfl
  · rename_i mk hid
    split
    · rename_i t cells hc
      rw [chGet_setCh _ _ _ _ (blt_lt' hid)]
      split
      · rename_i e; exact .inr (.inr ⟨mk, t, cells, e, by rw [e, hc], rfl⟩)
      · exact .inl rfl
    · exact .inl rfl
  · exact .inl rfl

theorem maskS_rel (xs : Nat → Nat → Value) (id : Nat) (how : Option (List Nat)) (ch : List Chunk) : ChRel ch (maskS xs id how ch) := by
  refine ⟨by rw [maskS_len]; exact Nat.le_refl _, fun i _ n hn => ?_⟩
  rcases maskS_get xs id how ch i with h | h | ⟨mk, t, cells, _, h1, h⟩
  · rw [h] at hn ⊢; exact ⟨n, hn, Nat.le_refl _, rfl⟩
  · rw [h] at hn; simp [lenOf] at hn
  · rw [h] at hn; simp [lenOf] at hn

theorem maskF_len (xs : Nat → Nat → Value) : ∀ (mks : List (Nat × Option (List Nat))) (ch : List Chunk), (maskF xs mks ch).length = ch.length
  | [], _ => rfl
  | (id, how) :: r, ch => by simp only [maskF, maskF_len xs r, maskS_len]
theorem maskF_rel (xs : Nat → Nat → Value) : ∀ (mks : List (Nat × Option (List Nat))) (ch : List Chunk), ChRel ch (maskF xs mks ch)
  | [], ch => ChRel.refl ch
  | (id, how) :: r, ch => (maskS_rel xs id how ch).trans (maskF_rel xs r _)
theorem maskF_conds (xs : Nat → Nat → Value) : ∀ (mks : List (Nat × Option (List Nat))) (ch : List Chunk), (∀ i, condsOf (chGet ch i) = []) → ∀ i, condsOf (chGet (maskF xs mks ch) i) = []
  | [], _, h => h
  | (id, how) :: r, ch, h => maskF_conds xs r _ fun i => by
    rcases maskS_get xs id how ch i with e | e | ⟨mk, t, cells, _, _, e⟩ <;> rw [e]
    · exact h i
    · rfl
    · rfl

theorem maskC_ok {ch : List Chunk} (mk : List Nat) (xs : Nat → Value) : ∀ (j : Nat) (cells : List SV), svOkL ch cells → svOkL ch (maskC mk xs j cells)
  | _, [], _ => by simp [maskC, svOkL]
  | j, s :: r, h => by
    simp only [svOkL] at h
    simp only [maskC, svOkL]
    refine ⟨?_, maskC_ok mk xs (j + 1) r h.2⟩
    split
    · simp [svOk]
    · exact h.1


theorem maskS_cells (xs : Nat → Nat → Value) (id : Nat) (how : Option (List Nat)) (ch : List Chunk) (hc : ∀ i, svOkL ch (cellsIn (chGet ch i))) : ∀ i, svOkL (maskS xs id how ch) (cellsIn (chGet (maskS xs id how ch) i)) := by
  intro i
  refine svOkL_rel (maskS_rel xs id how ch) _ ?_
  rcases maskS_get xs id how ch i with e | e | ⟨mk, t, cells, _, h1, e⟩ <;> rw [e]
  · exact hc i
  · simp [cellsIn, svOkL]
  · have := hc i; rw [h1] at this; exact maskC_ok mk _ 0 cells this
theorem maskF_cells (xs : Nat → Nat → Value) : ∀ (mks : List (Nat × Option (List Nat))) (ch : List Chunk), (∀ i, svOkL ch (cellsIn (chGet ch i))) → ∀ i, svOkL (maskF xs mks ch) (cellsIn (chGet (maskF xs mks ch) i))
  | [], _, h => h
  | (id, how) :: r, ch, h => maskF_cells xs r _ (maskS_cells xs id how ch h)

theorem maskC_den (mk : List Nat) (ρ : Nat → Value) : ∀ (cells : List SV) (k : Nat) (xs : Nat → Value), (∀ i, i < cells.length → xs (k + i) = ((denL ρ cells)[i]?).getD undef) → denL ρ (maskC mk xs k cells) = denL ρ cells
  | [], _, _, _ => rfl
  | s :: r, k, xs, h => by
    simp only [maskC, denL]
    have h0 := h 0 (by simp)
    simp only [denL, Nat.add_zero, List.getElem?_cons_zero, Option.getD_some] at h0
    have hr := maskC_den mk ρ r (k + 1) xs (fun i hi => by have := h (i + 1) (by simpa using hi); rw [show k + 1 + i = k + (i + 1) from by omega]; simpa [denL] using this)
    rw [hr]
    split
    · simp only [den, h0]
    · rfl

/-- the chunks ahead of what has come -/
theorem MemOk.front {n1 n2 : Nat} {e1 e2 : List Ent} {ch ch1 : List Chunk} {b1 b2 : List BEnt} {i1 i2 : List Nat} {ρ ρ1 : Nat → Value} {S : Nat → Prop} {w : World} (hm : MemOk ⟨n1, e1, ch1, b1, i1⟩ ρ1 S w) (ht : takeL ch1 ch.length = ch) (hl : ch.length ≤ ch1.length)
    (hcl : ∀ i, svOkL ch (cellsIn (chGet ch i))) (hcd : ∀ i, condsOf (chGet ch i) = []) (hρ : ∀ i, i < ch.length → ρ1 i = ρ i) : MemOk ⟨n2, e2, ch, b2, i2⟩ ρ S w := by
  have hg : ∀ i, i < ch.length → chGet ch1 i = chGet ch i := by
    have chE : ∀ (l : List Chunk) (i : Nat), i < l.length → l[i]? = some (chGet l i) := by
      intro l
      induction l with
      | nil => intro i h; simp at h
      | cons a r ih => intro i h; cases i with
        | zero => rfl
        | succ i => simpa [chGet] using ih i (by simpa using h)
    intro i hi
    have e1 := chE ch1 i (by omega)
    have e2 := chE ch i hi
    rw [← ht, takeL_eq, List.getElem?_take, if_pos (by simpa using hi)] at e2
    rw [e1] at e2
    rw [← takeL_eq, ht] at e2
    exact Option.some.inj e2
  refine ⟨fun i hi => ?_, hcl, fun i j b hi hj hij o1 o2 => ?_, fun i b hi o1 => ?_, hm.lt, fun i => by rw [hcd]; intro p hp; simp at hp⟩
  · have hi : i < ch.length := hi
    have hok := hm.ok i (by show i < ch1.length; omega)
    simp only at hok ⊢
    rw [hg i hi, hρ i hi] at hok
    have h2 := ChunkOk.cong (ch := ch) (ρ' := ρ) (fun id hid => (hρ id hid).symm) (hcl i) hok
    revert h2
    have hcdi := hcd i
    revert hcdi
    cases chGet ch i with
    | cnd L => intro hL h; have hL : L = [] := hL; subst hL; exact fun _ => h trivial
    | rp L => intro hL h; have hL : L = [] := hL; subst hL; exact fun _ => h trivial
    | _ => intro _ h; exact h
  · have hi : i < ch.length := hi
    have hj : j < ch.length := hj
    simp only at o1 o2
    rw [← hg i hi, ← hρ i hi] at o1
    rw [← hg j hj, ← hρ j hj] at o2
    exact hm.sep i j b (by show i < ch1.length; omega) (by show j < ch1.length; omega) hij o1 o2
  · have hi : i < ch.length := hi
    simp only at o1
    rw [← hg i hi, ← hρ i hi] at o1
    exact hm.out i b (by show i < ch1.length; omega) o1


/-- the unknown cells are what they are -/
def Knows (xs : Nat → Nat → Value) (ρ : Nat → Value) (ch : List Chunk) : Prop := ∀ id t cells, chGet ch id = .bx t cells → ∀ j, j < cells.length → xs id j = ((denL ρ cells)[j]?).getD undef

theorem maskS_mem {xs : Nat → Nat → Value} {ρ : Nat → Value} {ch : List Chunk} {S : Nat → Prop} {w : World} (id : Nat) (how : Option (List Nat)) (hk : Knows xs ρ ch) (hm : MemOk ⟨0, [], ch, [], []⟩ ρ S w) : Knows xs ρ (maskS xs id how ch) ∧ MemOk ⟨0, [], maskS xs id how ch, [], []⟩ ρ S w := by
  have hkk : Knows xs ρ (maskS xs id how ch) := by
    intro i t cells hc j hj
    rcases maskS_get xs id how ch i with e | e | ⟨mk, t', cells', hi, h1, e⟩
    · rw [e] at hc; exact hk i t cells hc j hj
    · rw [e] at hc; cases hc
    · rw [e] at hc
      simp only [Chunk.bx.injEq] at hc
      obtain ⟨_, rfl⟩ := hc
      subst hi
      have hd := maskC_den mk ρ cells' 0 (xs i) (fun q hq => by rw [Nat.zero_add]; exact hk i t' cells' h1 q hq)
      rw [hd]
      have hl : cells'.length = (maskC mk (xs i) 0 cells').length := by
        have := congrArg List.length hd; rw [denL_eq, denL_eq, List.length_map, List.length_map] at this; exact this.symm
      exact hk i t' cells' h1 j (by omega)
  refine ⟨hkk, ?_⟩
  have hcells := maskS_cells xs id how ch hm.cells
  have hrel := maskS_rel xs id how ch
  revert hcells hrel
  unfold maskS
  split
  · rename_i hid
    intro hcells hrel
    exact hm.change (st' := ⟨0, [], setCh ch id .dead, [], []⟩) (blt_lt' hid) rfl rfl (fun _ _ => rfl) (fun _ _ _ _ _ => rfl) trivial (by simp [cellsIn, svOkL]) hrel (fun b e => by simp [ownBlk] at e) rfl (Nat.le_refl _)
  · rename_i mk hid
    split
    · rename_i t cells hc
      intro hcells hrel
      have hok := hm.ok id (blt_lt' hid)
      simp only [hc] at hok
      obtain ⟨b, hb, hg⟩ := hok
      have hd := maskC_den mk ρ cells 0 (xs id) (fun q hq => by rw [Nat.zero_add]; exact hk id t cells hc q hq)
      refine hm.change (st' := ⟨0, [], setCh ch id (.bx t (maskC mk (xs id) 0 cells)), [], []⟩) (blt_lt' hid) rfl rfl (fun _ _ => rfl) (fun _ _ _ _ _ => rfl) ⟨b, hb, by rw [hd]; exact hg⟩ ?_ hrel (fun b' h => by simp only [hc]; exact (ownBlk_bx _ _ _ _ _).trans h) rfl (Nat.le_refl _)
      have := hm.cells id; simp only [hc] at this; exact maskC_ok mk _ 0 cells this
    · intro _ _; exact hm
  · intro _ _; exact hm
theorem maskF_mem {xs : Nat → Nat → Value} {ρ : Nat → Value} {S : Nat → Prop} {w : World} : ∀ (mks : List (Nat × Option (List Nat))) (ch : List Chunk), Knows xs ρ ch → MemOk ⟨0, [], ch, [], []⟩ ρ S w → MemOk ⟨0, [], maskF xs mks ch, [], []⟩ ρ S w
  | [], _, _, h => h
  | (id, how) :: r, ch, hk, h => by obtain ⟨h1, h2⟩ := maskS_mem id how hk h; exact maskF_mem r _ h1 h2

/-- but for what is masked all is as it was told -/
def MaskX (ch : List Chunk) (ρ : Nat → Value) (mks : List (Nat × Option (List Nat))) (w : World) : Prop := ∃ xs S, MemOk ⟨0, [], maskF xs mks ch, [], []⟩ ρ S w
def MaskR (ch : List Chunk) (ρ : Nat → Value) (mks : List (Nat × Option (List Nat))) (w w' : World) : Prop := MaskX ch ρ mks w → MaskX ch ρ mks w'
theorem MaskR.rel (ch : List Chunk) (ρ : Nat → Value) (mks : List (Nat × Option (List Nat))) : RelC (MaskR ch ρ mks) :=
  ⟨fun hcc ⟨xs, S, h⟩ => ⟨xs, S, h.below hcc⟩, fun h k hx => k (h hx)⟩

theorem MaskX.of {n : Nat} {env : List Ent} {bs : List BEnt} {ids : List Nat} {ch ch1 : List Chunk} {ρ ρ1 : Nat → Value} {S : Nat → Prop} {w : World} (mks : List (Nat × Option (List Nat))) (hl : ch.length ≤ ch1.length) (hcl : ∀ i, svOkL ch (cellsIn (chGet ch i))) (hcd : ∀ i, condsOf (chGet ch i) = [])
    (hρ : ∀ i, i < ch.length → ρ1 i = ρ i) (hrel : ∀ xs, takeL (maskF xs mks ch1) ch.length = maskF xs mks ch) (hm : MemOk ⟨n, env, ch1, bs, ids⟩ ρ1 S w) (hcd1 : ∀ i, condsOf (chGet ch1 i) = []) : MaskX ch ρ mks w := by
  have base : MemOk ⟨0, [], ch1, [], []⟩ ρ1 S w := hm.front (ch := ch1) (by rw [takeL_eq, List.take_length]) (Nat.le_refl _) hm.cells hcd1 (fun _ _ => rfl)
  let xs : Nat → Nat → Value := fun id j => match chGet ch1 id with | .bx _ cells => ((denL ρ1 cells)[j]?).getD undef | _ => undef
  have hk : Knows xs ρ1 ch1 := fun id t cells hc j _ => by simp only [xs, hc]
  refine ⟨xs, S, (maskF_mem mks ch1 hk base).front (ch := maskF xs mks ch) (by rw [maskF_len]; exact hrel xs) (by rw [maskF_len, maskF_len]; exact hl) (maskF_cells xs mks ch hcl) (maskF_conds xs mks ch hcd) (fun i hi => ?_)⟩
  rw [maskF_len] at hi
  exact hρ i hi

theorem cUpon_of_LOk {P : Program} {st : St} {o : Oper} {K : St → SV → Prop} {ρ : Nat → Value} {S : Nat → Prop} {w : World} {a : Act} (h : LOk P st o K (fun _ _ => False) ρ S w a) {Kc : Act → World → Prop} {Qc : List PanicEntry → Act → World → Prop}
    (hK : ∀ st' s ρ' S' w', Adv st st' ρ ρ' S S' w w' → svOk st'.ch s → K st' s → Kc (a.put o.dst (den ρ' s)) w') : cUpon P (fun pc w' => Qc pc a w') (fun v w' => Kc (a.put o.dst v) w') ((execOp a.eval o).run P w) := by
  have hd : ∀ v, (a.put o.dst v).defers = a.defers := fun v => by unfold Act.put; cases o.dst <;> rfl
  have hw := h (fun a' w' => Kc a' w' ∧ a'.defers = a.defers) (fun _ _ _ => False) (fun st' s ρ' S' w' h1 h2 h3 => ⟨hK st' s ρ' S' w' h2 h3 h1, hd _⟩) (fun _ _ _ _ _ h _ => h)
  unfold Oper.wp at hw
  generalize (execOp a.eval o).run P w = r at *
  cases r with
  | ok n w' =>
    cases n with
    | value v => exact hw.1
    | skip => exact hw.1
    | defer d =>
      exfalso
      have h2 := hw.2
      unfold Act.put at h2
      cases hdst : o.dst <;> simp [hdst] at h2
    | enter f args =>
      refine Calls.mono hw fun e w'' h2 => ?_
      cases e with
      | returned v => exact .inl ⟨v, rfl, h2.1⟩
      | panicked c => exact h2.elim
      | outgrown => obtain ⟨_, _, h3⟩ := h2; exact h3.elim
    | row r args => exact Rows.mono hw fun v w'' h2 => h2.1
    | _ => exact hw.elim
  | halt x w' =>
    cases x <;> exact hw.elim

theorem cop_sound {cf : Cfg} (hcf : CfgOk cf) {ops : Array Oper} {l : List Oper} {st : St} {ρ : Nat → Value} {S : Nat → Prop} {w : World} {a : Act} {o : Oper} {K : St → SV → Prop} {Kp : List PanicEntry → St → Prop} (hm : MemOk st ρ S w) (he : EnvOk ops st ρ a) (h : cop cf cf.tt l st o.op K Kp) {Kc : Act → World → Prop} {Qc : List PanicEntry → Act → World → Prop}
    (hP : ∀ pc st' ρ' S' w', Adv st st' ρ ρ' S S' w w' → panK l st' (Kp pc) → Qc pc a w')
    (hK : ∀ st' s ρ' S' w', Adv st st' ρ ρ' S S' w w' → svOk st'.ch s → K st' s → Kc (a.put o.dst (den ρ' s)) w') :
    cUpon cf.P (fun pc w' => Qc pc a w') (fun v w' => Kc (a.put o.dst v) w') ((execOp a.eval o).run cf.P w) := by
  generalize ho : o.op = op at h
  unfold cop at h
  split at h
  · rename_i x name args ts
    unfold invokeK at h
    split at h
    · rename_i t v l' hx hl
      obtain ⟨f, r, hf, hr, h⟩ := h
      obtain ⟨h1, _⟩ := getVs_sound he (L := []) trivial _ _ hl
      have h2 := (getV_sound he (L := []) trivial hx).1
      simp only [den] at h2
      have hargs : args.map a.eval = (denL ρ l').toArray := by rw [← h1, ← Array.toList_map]
      have hrun : (execOp a.eval o).run cf.P w = .ok (.enter f (denL ρ (.v r :: l')).toArray) w := by
        have := hcf.fns f (hasN_mem hf) (r :: denL ρ l').toArray w
        show (execOp a.eval o).run cf.P w = .ok (.enter f (r :: denL ρ l').toArray) w
        simp [execOp, ho, resolve, h2, invoke, hargs, callMethod, hr, this]
      rw [hrun]
      refine (h ρ S w hm).mono fun e w' h0 => ?_
      rcases h0 with ⟨st', s, ρ', S', he', hadv, hs, hK'⟩ | ⟨ch, st', ρ', S', he', hadv, hK'⟩
      · exact .inl ⟨_, he', hK st' s ρ' S' w' hadv hs hK'⟩
      · exact .inr ⟨ch, he', hP ch st' ρ' S' w' hadv hK'⟩
    · exact h.elim
  · rename_i f args ts
    split at h
    · rename_i l' hf hl
      rcases h with hq | h
      · refine cUpon_of_LOk (lop_sound (Kp := fun _ _ => False) hcf hm he ?_) hK
        rw [ho]
        unfold lop
        simp only [hf, hl]
        exact Or.inl hq
      · obtain ⟨h1, _⟩ := getVs_sound he (L := []) trivial _ _ hl
        have hargs : args.map a.eval = (denL ρ l').toArray := by rw [← h1, ← Array.toList_map]
        have hrun : (execOp a.eval o).run cf.P w = .ok (.enter f (denL ρ l').toArray) w := by
          have := hcf.fns f (hasN_mem hf) (denL ρ l').toArray w
          simp [execOp, ho, resolve, Act.eval, Deferred.ofValue, invoke, hargs, this]
        rw [hrun]
        refine (h ρ S w hm).mono fun e w' h0 => ?_
        rcases h0 with ⟨st', s, ρ', S', he', hadv, hs, hK'⟩ | ⟨ch, st', ρ', S', he', hadv, hK'⟩
        · exact .inl ⟨_, he', hK st' s ρ' S' w' hadv hs hK'⟩
        · exact .inr ⟨ch, he', hP ch st' ρ' S' w' hadv hK'⟩
    · rw [← ho] at h
      exact cUpon_of_LOk (lop_sound hcf hm he h) hK
  · rename_i t args ts
    split at h
    · rename_i f first caps l' hfn hl
      split at h
      · rename_i hf
        obtain ⟨h1, _⟩ := getVs_sound he (L := []) trivial _ _ hl
        obtain ⟨h2, _⟩ := getV_sound he (L := []) trivial hfn
        have hargs : args.map a.eval = (denL ρ l').toArray := by rw [← h1, ← Array.toList_map]
        have hrun : (execOp a.eval o).run cf.P w = .ok (.enter f (denL ρ (first ++ (l' ++ caps))).toArray) w := by
          have := hcf.fns f (hasN_mem hf) (denL ρ (first ++ (l' ++ caps))).toArray w
          rw [denL_append, denL_append] at this ⊢
          simp only [den] at h2
          simp [execOp, ho, resolve, h2, Deferred.ofValue, invoke, hargs, this]
        rw [hrun]
        refine (h ρ S w hm).mono fun e w' h0 => ?_
        rcases h0 with ⟨st', s, ρ', S', he', hadv, hs, hK'⟩ | ⟨ch, st', ρ', S', he', hadv, hK'⟩
        · exact .inl ⟨_, he', hK st' s ρ' S' w' hadv hs hK'⟩
        · exact .inr ⟨ch, he', hP ch st' ρ' S' w' hadv hK'⟩
      · exact h.elim
    · rw [← ho] at h
      exact cUpon_of_LOk (lop_sound hcf hm he h) hK
  · rw [← ho] at h
    exact cUpon_of_LOk (lop_sound hcf hm he h) hK

theorem noCnd_get : ∀ {ch : List Chunk}, noCnd ch = true → ∀ i, condsOf (chGet ch i) = []
  | [], _, i => by cases i <;> rfl
  | c :: r, h, i => by
    have key : noCnd r = true ∧ condsOf c = [] := by
      cases c with
      | cnd => simp [noCnd] at h
      | rp L cs => cases L with
        | nil => exact ⟨h, rfl⟩
        | cons => simp [noCnd] at h
      | _ => exact ⟨h, rfl⟩
    cases i with
    | zero => exact key.2
    | succ i => exact noCnd_get key.1 i

theorem forcedN_mem : ∀ (cs : List Nat) (c : Nat), c ∈ cs → Nat.ble 1000 c = false → (forcedN cs).contains c = true
  | [], c, h, _ => by cases h
  | d :: r, c, h, hb => by
    unfold forcedN
    rcases List.mem_cons.1 h with rfl | h
    · simp only [hb]; simp
    · have ih := forcedN_mem r c h hb
      split
      · exact ih
      · rw [List.contains_cons, ih, Bool.or_true]

theorem calm_sound {P : Program} {ops : Array Oper} {st : St} {ρ : Nat → Value} {a : Act} {o : Oper} {K : SV → Prop} (he : EnvOk ops st ρ a) (h : calmK st o.op K) :
    ∃ s, K s ∧ svOk st.ch s ∧ ∀ w, (execOp a.eval o).run P w = .ok (.value (den ρ s)) w := by
  generalize ho : o.op = op at h
  have hL : holds st.bs [] := trivial
  unfold calmK at h
  split at h
  · rename_i x
    split at h
    · rename_i s hg
      obtain ⟨h1, h2⟩ := getV_sound he hL hg
      exact ⟨s, h, h2, fun w => by simp [execOp, ho, h1]⟩
    · exact h.elim
  · rename_i x
    split at h
    · rename_i s hg
      obtain ⟨h1, h2⟩ := getV_sound he hL hg
      exact ⟨s, h, h2, fun w => by simp [execOp, ho, h1]⟩
    · exact h.elim
  · rename_i x i
    split at h
    · rename_i l hx
      split at h
      · rename_i s _ hd
        obtain ⟨h1, h2⟩ := getV_sound he hL hx
        simp only [svOk] at h2
        rw [dropL_eq] at hd
        have hget : l[i]? = some s := by have := congrArg (·[0]?) hd; simpa using this
        refine ⟨s, h, svOkL_get l i s h2 hget, fun w => ?_⟩
        simp only [den, denL_eq] at h1
        simp [execOp, ho, h1, Instr.extract, hget]
      · exact h.elim
    · rename_i vs hx
      split at h
      · rename_i v _ hd
        refine ⟨.v v, h, by simp [svOk], fun w => ?_⟩
        obtain ⟨h1, h2⟩ := getV_sound he hL hx
        rw [dropL_eq] at hd
        have hget : vs.toList[i]? = some v := by have := congrArg (·[0]?) hd; simpa using this
        simp only [den] at h1 ⊢
        have : vs[i]? = some v := by simpa using hget
        simp [execOp, ho, h1, Instr.extract, this]
      · exact h.elim
    · exact h.elim
  · exact h.elim

theorem cop1_sound (hcf : CfgOk cf) (hst : ∀ go, Stab (cx.J go)) {ch0 : List Chunk} {ρ0 : Nat → Value} {mks : List (Nat × Option (List Nat))} (hcl0 : ∀ i, svOkL ch0 (cellsIn (chGet ch0 i))) (hcd : ∀ i, condsOf (chGet ch0 i) = []) {Kp : List PanicEntry → St → Prop} {K2 : St → Prop} {Qp : List PanicEntry → Act → World → Prop} {Q : Act → World → Prop}
    (hP : ∀ pc st' ρ' S' a' w', Kp pc st' → noDst ops.toList st' → EnvOk ops st' ρ' a' → InvD cx st' ρ' S' w' a'.defers → Qp pc a' w')
    (c : Nat) (st : St) (ρ : Nat → Value) (S : Nat → Prop) (w : World) (a : Act) (hll : ch0.length ≤ st.ch.length) (hρ : ∀ i, i < ch0.length → ρ i = ρ0 i) (he : EnvOk ops st ρ a) (hinv : InvD cx st ρ S w a.defers)
    (hQ : ∀ st' ρ' S' a' w', (∀ i, condsOf (chGet st'.ch i) = []) → ch0.length ≤ st'.ch.length → (∀ i, i < ch0.length → ρ' i = ρ0 i) → K2 st' → EnvOk ops st' ρ' a' → InvD cx st' ρ' S' w' a'.defers → Q a' w')
    (h : cop1 cf cf.tt ops.toList mks Kp ch0 c st K2) : ∀ w', CC w w' → cStep cf.P ops Qp c (fun a' w'' => MaskR ch0 ρ0 mks w' w'' ∧ Q a' w'') a w' := by
  unfold cop1 at h
  split at h
  · exact h.elim
  rename_i o rest hd
  have hoi : ops[c]? = some o := by simpa using dropL_head _ _ _ _ hd
  split at h
  · exact h.elim
  rename_i hg
  have hw := (cond_wanted he (show condOf st.bs o.guard = some [] by rw [hg]; rfl)).2
  intro w' hw'
  have hi' := hinv.below' hst hw'
  unfold cStep
  simp only [hoi, hw.2 trivial, if_true]
  refine cop_sound hcf hi'.inv.mem he h (Qc := Qp) (fun pc st1 ρ1 S1 w'' hadv h1 => panK_sound (he.rel hadv.n hadv.env hadv.bs hadv.rel hadv.old) (hi'.adv hst hadv) h1 hP) (Kc := fun a' w'' => MaskR ch0 ρ0 mks w' w'' ∧ Q a' w'') (fun st1 s ρ1 S1 w1 hadv hs hK => ?_)
  obtain ⟨hnc, hrel, hK⟩ := hK
  have hcd1 := noCnd_get hnc
  have hll1 : ch0.length ≤ st1.ch.length := Nat.le_trans hll hadv.rel.1
  have hρ1 : ∀ i, i < ch0.length → ρ1 i = ρ0 i := fun i hi => (hadv.old i (by omega)).trans (hρ i hi)
  refine ⟨fun _ => ?_, ?_⟩
  · obtain ⟨n1, e1, c1, b1, i1⟩ := st1
    exact MaskX.of mks hll1 hcl0 hcd (fun i hi => hρ1 i hi) (fun xs => by
      have := maskK_eq _ _ (maskK_eq _ _ (hrel xs))
      simpa using this) hadv.mem hcd1
  · have he1 := he.rel hadv.n hadv.env hadv.bs hadv.rel hadv.old
    obtain ⟨st2, ⟨h2, hch2⟩, he2, hm2, hn2⟩ := putK_len hadv.mem he1 (fun _ => hs) (fun p hp => by simp at hp) hoi hK
    rw [if_pos (show holds st1.bs [] from trivial)] at he2
    have hd2 : InvD cx st2 ρ1 S1 w1 a.defers := (hi'.adv hst hadv).mv hm2 (OwnEq.of hch2)
    exact hQ st2 ρ1 S1 _ w1 (by rw [hch2]; exact hcd1) (by rw [hch2]; exact hll1) hρ1 h2 he2 (by rw [put_defers]; exact hd2)

theorem cops_sound (hcf : CfgOk cf) (hst : ∀ go, Stab (cx.J go)) {ch0 : List Chunk} {ρ0 : Nat → Value} {mks : List (Nat × Option (List Nat))} (hcl0 : ∀ i, svOkL ch0 (cellsIn (chGet ch0 i))) (hcd : ∀ i, condsOf (chGet ch0 i) = []) {Kp : List PanicEntry → St → Prop} {cs : List Nat} {K2 : St → Prop} {Qp : List PanicEntry → Act → World → Prop} {Q : Act → World → Prop}
    (hP : ∀ pc st' ρ' S' a' w', Kp pc st' → noDst ops.toList st' → EnvOk ops st' ρ' a' → InvD cx st' ρ' S' w' a'.defers → Qp pc a' w')
    (hQ : ∀ st' ρ' S' a' w', K2 st' → EnvOk ops st' ρ' a' → InvD cx st' ρ' S' w' a'.defers → Q a' w') :
    ∀ (π : List Nat) (st : St) (ρ : Nat → Value) (S : Nat → Prop) (w : World) (a : Act), (∀ c ∈ π, Nat.ble 1000 c = false → cs.contains c = true) → (∀ i, condsOf (chGet st.ch i) = []) → ch0.length ≤ st.ch.length → (∀ i, i < ch0.length → ρ i = ρ0 i) → EnvOk ops st ρ a → InvD cx st ρ S w a.defers → cops cf cf.tt ops.toList mks Kp ch0 π st K2 → wpC Qp (MaskR ch0 ρ0 mks) cf.P ops cs Q (plainN π) a w
  | [], st, ρ, S, w, a, _, _, _, _, he, hinv, h => fun w' hw' => hQ st ρ S a w' h he (hinv.below' hst hw')
  | c :: r, st, ρ, S, w, a, hin, hcdx, hll, hρ, he, hinv, h => by
    simp only [cops] at h
    have rec0 : ∀ st' ρ' S' a' w', (∀ i, condsOf (chGet st'.ch i) = []) → ch0.length ≤ st'.ch.length → (∀ i, i < ch0.length → ρ' i = ρ0 i) → cops cf cf.tt ops.toList mks Kp ch0 r st' K2 → EnvOk ops st' ρ' a' → InvD cx st' ρ' S' w' a'.defers → wpC Qp (MaskR ch0 ρ0 mks) cf.P ops cs Q (plainN r) a' w' :=
      fun st' ρ' S' a' w' g1 g2 g3 g4 g5 g6 => cops_sound hcf hst hcl0 hcd hP hQ r st' ρ' S' w' a' (fun c hc => hin c (by simp [hc])) g1 g2 g3 g5 g6 g4
    cases hpc : pairOf c with
    | some ij =>
      obtain ⟨i, j⟩ := ij
      simp only [hpc] at h
      have hpn : plainN (c :: r) = c :: plainN r := by simp only [plainN, hpc]
      rw [hpn]
      simp only [wpC, hpc]
      have two : ∀ i j : Nat, cop1 cf cf.tt ops.toList mks Kp ch0 i st (fun st1 => cop1 cf cf.tt ops.toList mks Kp ch0 j st1 (fun st2 => cops cf cf.tt ops.toList mks Kp ch0 r st2 K2)) →
          ∀ w', CC w w' → cStep cf.P ops Qp i (fun a' w'' => MaskR ch0 ρ0 mks w' w'' ∧ ∀ w2, CC w'' w2 → cStep cf.P ops Qp j (fun a2 w3 => MaskR ch0 ρ0 mks w2 w3 ∧ wpC Qp (MaskR ch0 ρ0 mks) cf.P ops cs Q (plainN r) a2 w3) a' w2) a w' :=
        fun i j hh => cop1_sound hcf hst hcl0 hcd hP i st ρ S w a hll hρ he hinv (fun st1 ρ1 S1 a1 w1 g1 g2 g3 g4 g5 g6 => cop1_sound hcf hst hcl0 hcd hP j st1 ρ1 S1 w1 a1 g2 g3 g5 g6 rec0 g4) hh
      exact ⟨two i j h.1, two j i h.2⟩
    | none =>
    simp only [hpc] at h
    cases hc1 : Nat.ble 1000 c with
    | true =>
      simp only [hc1] at h
      split at h
      case h_2 => exact h.elim
      rename_i o rest hd hpc2
      have hoi : ops[Nat.sub c 1000]? = some o := by simpa using dropL_head _ _ _ _ hd
      split at h
      · exact h.elim
      rename_i hg
      have hw := (cond_wanted he (show condOf st.bs o.guard = some [] by rw [hg]; rfl)).2
      obtain ⟨s, hK, hs, hrun⟩ := calm_sound (P := cf.P) he h
      obtain ⟨st2, ⟨h2, hch2⟩, he2, hm2, hn2⟩ := putK_len hinv.inv.mem he (fun _ => hs) (fun p hp => by simp at hp) hoi hK
      rw [if_pos (show holds st.bs [] from trivial)] at he2
      have hy : YieldsM (MaskR ch0 ρ0 mks) cf.P ops w o (den ρ s) a := .inl ⟨hw.2 trivial, fun w' _ => quiet_of_run (hrun w')⟩
      have hd2 : ∀ w', CC w w' → InvD cx st2 ρ S w' (a.put o.dst (den ρ s)).defers := fun w' hcc => by rw [put_defers]; exact (hinv.below' hst hcc).mv (hm2.below hcc) (OwnEq.of hch2)
      have rec' := fun w' (hcc : CC w w') => rec0 st2 ρ S _ w' (by rw [hch2]; exact hcdx) (by rw [hch2]; exact hll) hρ h2 he2 (hd2 w' hcc)
      have hpn : plainN (c :: r) = Nat.sub c 1000 :: plainN r := by simp only [plainN, hpc, hc1]
      rw [hpn]
      simp only [wpC, hpc2]
      split
      · intro w' hw'
        refine hy.step hoi ((MaskR.rel ch0 ρ0 mks).cc hw') fun w'' hw'' => ⟨(MaskR.rel ch0 ρ0 mks).cc hw'', rec' w'' (CC.trans hw' hw'')⟩
      · exact ⟨o, _, hoi, hy, rec' w (CC.refl w)⟩
    | false =>
    simp only [hc1] at h
    have hpn : plainN (c :: r) = c :: plainN r := by simp only [plainN, hpc, hc1]
    rw [hpn]
    simp only [wpC, hpc, hin c (by simp) hc1]
    exact cop1_sound hcf hst hcl0 hcd hP c st ρ S w a hll hρ he hinv rec0 h

theorem fops_sound (hcf : CfgOk cf) (hst : ∀ go, Stab (cx.J go)) {ch0 : List Chunk} {ρ0 : Nat → Value} {mks : List (Nat × Option (List Nat))} (hcd : ∀ i, condsOf (chGet ch0 i) = []) {Kp : List PanicEntry → St → Prop} {cs : List Nat} {K2 : St → Prop} {Qp : List PanicEntry → Act → World → Prop} {Q : Act → World → Prop}
    (hP : ∀ pc st' ρ' S' a' w', Kp pc st' → noDst ops.toList st' → EnvOk ops st' ρ' a' → InvD cx st' ρ' S' w' a'.defers → Qp pc a' w')
    (hQ : ∀ st' ρ' S' a' w', K2 st' → EnvOk ops st' ρ' a' → InvD cx st' ρ' S' w' a'.defers → Q a' w') :
    ∀ (cs0 : List Nat), (∀ c ∈ cs0, Nat.ble 1000 c = false → cs.contains c = true) → ∀ (π : List Nat) (st : St) (S : Nat → Prop) (w : World) (a : Act), st.ch = ch0 → EnvOk ops st ρ0 a → InvD cx st ρ0 S w a.defers →
      fops cf cf.tt ops.toList cs mks π st (fun st' => cops cf cf.tt ops.toList mks Kp st'.ch cs0 st' K2) → wpC Qp (MaskR ch0 ρ0 mks) cf.P ops cs Q (π ++ plainN cs0) a w
  | cs0, hc0, [], st, S, w, a, hch, he, hinv, h => by
    simp only [fops] at h
    rw [hch] at h
    have hc := hinv.inv.mem.cells
    rw [hch] at hc
    exact cops_sound hcf hst hc hcd hP hQ cs0 st ρ0 S w a hc0 (by rw [hch]; exact hcd) (by rw [hch]; exact Nat.le_refl _) (fun _ _ => rfl) he hinv h
  | cs0, hc0, i :: r, st, S, w, a, hch, he, hinv, h => by
    simp only [fops] at h
    split at h
    case h_2 => exact h.elim
    rename_i o rest hd hic0
    have hoi : ops[i]? = some o := by simpa using dropL_head _ _ _ _ hd
    have hpi : pairOf i = none := by
      cases hpi : pairOf i with
      | none => rfl
      | some _ => rw [hpi] at hic0; cases hic0
    have hic : hasN cs i = false := by rw [hpi] at hic0; exact hic0
    have hic : cs.contains i = false := by
      cases hci : cs.contains i with
      | false => rfl
      | true => rw [hasN_iff.2 (by simpa using hci)] at hic; cases hic
    split at h
    · exact h.elim
    rename_i L hc
    obtain ⟨s, hq0, hq, hp⟩ := h
    obtain ⟨hcl, hw⟩ := cond_wanted he hc
    simp only [List.cons_append, wpC, hpi, hic]
    have hcl0 := hinv.inv.mem.cells
    rw [hch] at hcl0
    have hX : MaskX ch0 ρ0 mks w := by
      have hm := hinv.inv.mem
      obtain ⟨n1, e1, c1, b1, i1⟩ := st
      simp only at hch
      subst hch
      exact MaskX.of mks (Nat.le_refl _) hcl0 hcd (fun _ _ => rfl) (fun xs => by rw [takeL_eq, ← maskF_len xs mks c1, List.take_length]) hm hcd
    have hsok : holds st.bs L → svOk st.ch s := by
      intro hL
      obtain ⟨st1, s1, ρ1, ⟨hs1, hlen⟩, hr⟩ := qop_sound hcf hcl hinv.inv.mem he hq0
      subst hs1
      have r1 : ChRel st1.ch st.ch := ⟨by omega, fun j hj n hn => ⟨n, by rw [hr.chx.2 j (by omega)]; exact hn, Nat.le_refl _, by rw [hr.chx.2 j (by omega)]⟩⟩
      exact svOk_rel r1 _ (hr.runw hL).1
    have run : ∀ w', MaskX ch0 ρ0 mks w' → holds st.bs L → o.quietAt cf.P a (CC w') w' (den ρ0 s) := by
      intro w' hX' hL
      obtain ⟨xs, S', hm'⟩ := hX'
      have hqx := maskK_eq _ _ (hq xs)
      rw [hch] at hqx
      have hlenm := maskF_len xs mks ch0
      have hrel := maskF_rel xs mks ch0
      have hcdm := maskF_conds xs mks ch0 hcd
      generalize maskF xs mks ch0 = chm at *
      have hmx : MemOk ⟨st.n, st.env, chm, st.bs, st.ids⟩ ρ0 S' w' := hm'.front (by rw [takeL_eq, List.take_length]) (Nat.le_refl _) hm'.cells hcdm (fun _ _ => rfl)
      have hex : EnvOk ops ⟨st.n, st.env, chm, st.bs, st.ids⟩ ρ0 a := he.rel (st' := ⟨st.n, st.env, chm, st.bs, st.ids⟩) rfl rfl rfl (by rw [hch]; exact hrel) (fun _ _ => rfl)
      have hin : inSt st chm = ⟨st.n, st.env, chm, st.bs, st.ids⟩ := rfl
      rw [hin] at hqx
      obtain ⟨st1, s1, ρ1, ⟨hs1, hlen⟩, hr⟩ := qop_sound (st := ⟨st.n, st.env, chm, st.bs, st.ids⟩) hcf hcl hmx hex hqx
      subst hs1
      obtain ⟨g1, g2⟩ := hr.runw hL
      have hd1 : den ρ1 s1 = den ρ0 s1 := den_congr (fun j hj => hr.old j (by show j < chm.length; omega)) s1 g1
      rw [← hd1]
      exact g2 w' (Below.refl _ _)
    obtain ⟨st2, ⟨h2, hch2⟩, he2, hm2, hn2⟩ := putK_len hinv.inv.mem he hsok hcl hoi hp
    refine ⟨o, _, hoi, ?_, fops_sound hcf hst hcd hP hQ cs0 hc0 r st2 S w _ (hch2.trans hch) he2 (by rw [put_defers]; exact hinv.mv hm2 (OwnEq.of hch2)) h2⟩
    by_cases hL : holds st.bs L
    · rw [if_pos hL]
      exact .inl ⟨hw.2 hL, fun w' hC => run w' (hC hX) hL⟩
    · rw [if_neg hL]
      exact .inr ⟨by cases hwa : Region.wanted o (yielded ops a.tmps) with | false => rfl | true => exact absurd (hw.1 hwa) hL, rfl⟩
end
end Go.Eng

/-! part Snd14e -/
namespace Go.Eng
open Go.RowKit
open Classical

theorem CxOk.cong {cf cf' : Cfg} {cx : Ctx} (h : CxOk cf cx) (hP : cf'.P = cf.P) (hN : cf'.yN = cf.yN) (hv : cf'.yv = cf.yv) : CxOk cf' cx :=
  ⟨h.stab, fun h0 => h.FG (by rw [← hN]; exact h0), fun U k W1 hJ hk => by rw [hP, hv]; exact h.yield U k W1 hJ (by rw [← hN]; exact hk)⟩

theorem wpAny_quiet' {P : Program} {ops : Array Oper} {C : World → Prop} {Q : Exit → Act → World → Prop} {a : Act} {w : World} (hB : Region.lexB .any ops = true) (hC : C w)
    (h : wpQuiet P ops C (fun a' => ∀ w', C w' → Q .normal a' w') ops.toList a) : wpAny P .any ops Q ops.size (Array.replicate ops.size false) a w := by
  simp only [Region.lexB, Bool.and_eq_true] at hB
  refine wpAny_of_quiet (Q := fun a' => ∀ w', C w' → Q .normal a' w') (fun _ w' hw' h => h w' hw') _ _ _ _ hC ?_
  have := wpAnyQ_lex (C := C) (md := .any) hB.1 ops.toList 0 (Array.replicate ops.size false) a (by simp) (by simpa using hB.2) h
  simpa using this

theorem wpAny_tail' {P : Program} {Q : Exit → Act → World → Prop} {a : Act} {w : World} {l : List Oper} (n : Nat) (hB : Region.lexTailB .any l.toArray n = true)
    (h : wpStill P l.toArray w (fun a' => wpList P l.toArray Q (l.drop n) a' w) (l.take n) a) : wpAny P .any l.toArray Q l.toArray.size (Array.replicate l.toArray.size false) a w := by
  simp only [Region.lexTailB, Bool.and_eq_true, decide_eq_true_eq] at hB
  obtain ⟨⟨⟨⟨hsel, hn⟩, hs⟩, hc⟩, hlex⟩ := hB
  have hn' : n < l.length := by simpa using hn
  have htl : (l.take n).length = n := by simp; omega
  have hdl : (l.drop n).length = l.toArray.size - n := by simp
  have inv0 : HeadInv .any l.toArray n (Array.replicate l.toArray.size false) :=
    ⟨by simp, fun j oj _ hl => (by rw [getD_replicate_false] at hl; cases hl), fun t _ ht => getD_in (by simpa using ht) (getD_replicate_false _ _)⟩
  have H := wpAnyL_lex (md := .any) (g := l.toArray.size - n) hsel hs hc hn (l.take n) 0 _ a (fun j hj => by
    have hj' : j < n := by rw [htl] at hj; exact hj
    simp [hj']) (by simpa using htl) inv0 (by rw [htl]; exact hlex) h
  have := wpAny_of_head (Q' := Q) (g := l.toArray.size - n) (fun listed a' hL => by
    have := wpAny_of_seq (md := .any) (Q' := Q) (l.drop n) n listed a' w (fun j => by simp [List.getElem?_drop]) (by rw [hdl]; exact hL.1) hL.2
    rwa [hdl] at this) _ _ _ H
  rw [htl, show n + (l.toArray.size - n) = l.toArray.size by omega] at this
  exact this

/-- a list walked as it is, in a region that draws -/
theorem rops_plain {cf : Cfg} (hcf : CfgOk cf) (h0 : cf.yN = 0) {cx : Ctx} (hst : ∀ go, Stab (cx.J go)) {ops : Array Oper} {K : St → Prop} {Kp : List PanicEntry → St → Prop} {Q : Exit → Act → World → Prop} (hQ : ∀ st' a' w', K st' → Sat cx st' a' w' → Q .normal a' w') (hQp : ∀ ch st' a' w', Kp ch st' → Sat cx st' a' w' → Q (.panic ch) a' w') :
    ∀ (l : List Oper) (is : List Nat) (st : St) (ρ : Nat → Value) (S : Nat → Prop) (w : World) (a : Act), (∀ (j i : Nat) (o : Oper), is[j]? = some i → l[j]? = some o → ops[i]? = some o) →
      EnvOk ops st ρ a → InvD cx st ρ S w a.defers → rops cf cf.tt l is st K Kp → wpList cf.P ops Q l a w
  | [], is, st, ρ, S, w, a, _, he, hinv, h => by
    simp only [rops] at h
    obtain ⟨st', ⟨hK, hl⟩, h1, h2, h3, h4⟩ := condOut_len hinv.inv.mem he h
    have := hinv.mv h2 hl
    exact hQ st' a w hK ⟨ρ, S, h1, h4, this.inv, this.df⟩
  | o :: r, [], st, ρ, S, w, a, _, he, hinv, h => by simp [rops] at h
  | o :: r, i :: is, st, ρ, S, w, a, hl, he, hinv, h => by
    have hoi : ops[i]? = some o := hl 0 i o rfl rfl
    have hl' : ∀ (j i : Nat) (o : Oper), is[j]? = some i → r[j]? = some o → ops[i]? = some o := fun j i o h1 h2 => hl (j + 1) i o (by simpa using h1) (by simpa using h2)
    simp only [rops] at h
    split at h
    · exact h.elim
    · rename_i hc
      obtain ⟨hcl, hw⟩ := cond_wanted he hc
      simp only [wpList]
      rw [if_pos (hw.2 trivial)]
      split at h
      · obtain ⟨id, k, _, _, hk, _⟩ := h; omega
      · refine .inl (lop_sound hcf hinv.inv.mem he h _ _ (fun st1 s ρ1 S1 w1 h1 hadv hs => ?_) (fun pc st1 ρ1 S1 w1 h1 hadv => ?_))
        rotate_left
        · have he1 := he.rel hadv.n hadv.env hadv.bs hadv.rel hadv.old
          obtain ⟨st', ⟨hK, hl⟩, g1, g2, g3, g4⟩ := condOut_len hadv.mem he1 h1
          have := (hinv.adv hst hadv).mv g2 hl
          exact hQp pc st' a w1 hK ⟨ρ1, S1, g1, g4, this.inv, this.df⟩
        have he1 := he.rel hadv.n hadv.env hadv.bs hadv.rel hadv.old
        obtain ⟨st2, ⟨h2, hch2⟩, he2, hm2, hn2⟩ := putK_len hadv.mem he1 (fun _ => hs) (fun p hp => by simp at hp) hoi h1
        rw [if_pos (show holds st1.bs [] from trivial)] at he2
        refine rops_plain hcf h0 hst hQ hQp r is st2 ρ1 S1 w1 _ hl' he2 ?_ h2
        rw [put_defers]
        exact (hinv.adv hst hadv).mv hm2 (OwnEq.of hch2)
    · rename_i L _ hc
      obtain ⟨hcl, hw⟩ := cond_wanted he hc
      have quiet : qop cf cf.tt st L o.op (fun st' s => putK st' i o L s (fun st'' => rops cf cf.tt r is st'' K Kp)) → wpList cf.P ops Q (o :: r) a w := by
        intro h
        obtain ⟨st1, s, ρ1, h1, hr⟩ := qop_sound hcf hcl hinv.inv.mem he h
        have he1 := he.step hr.n hr.env hr.bs hr.chx hr.old
        have fin : ∀ w', CC w w' → wpList cf.P ops Q r (a.put o.dst (if holds st1.bs L then den ρ1 s else undef)) w' := by
          intro w' hw'
          have hadv : Adv st st1 ρ ρ1 S S w w' := Adv.quiet hr.n hr.env hr.bs hr.chx hr.old (hr.mem.below hw') hr.own hw'
          obtain ⟨st2, ⟨h2, hch2⟩, he2, hm2, hn2⟩ := putK_len (hr.mem.below hw') he1 (fun hL => (hr.run (by rw [hr.bs] at hL; exact hL)).1) (by rw [hr.bs]; exact hcl) hoi h1
          refine rops_plain hcf h0 hst hQ hQp r is st2 ρ1 S w' _ hl' he2 ?_ h2
          rw [put_defers]
          exact (hinv.adv hst hadv).mv hm2 (OwnEq.of hch2)
        simp only [wpList]
        by_cases hL : holds st.bs L
        · rw [if_pos (hw.2 hL)]
          refine .inl (Oper.wp_of_quiet (C := CC w) (Below.refl _ _) (K := fun a' => a' = a.put o.dst (den ρ1 s)) (fun a' w' hw' e => ?_) ⟨den ρ1 s, (hr.run hL).2, rfl⟩)
          subst e
          have := fin w' hw'
          rw [if_pos (by rw [hr.bs]; exact hL)] at this
          exact this
        · rw [if_neg (fun h => hL (hw.1 h))]
          have := fin w (Below.refl _ _)
          rw [if_neg (by rw [hr.bs]; exact hL)] at this
          exact this
      split at h
      · exact quiet h
      · rcases h with h | ⟨hL, h⟩ | ⟨hL, x, h⟩
        · exact quiet h
        · simp only [wpList]
          rw [if_pos (hw.2 hL)]
          rw [relaxK_eq] at h
          have heR := relax_env he hL
          have hmR := relax_mem (L := L) hinv.inv.mem
          refine .inl (lop_sound hcf hmR heR h _ _ (fun st1 s ρ1 S1 w1 h1 hadv hs => ?_) (fun pc st1 ρ1 S1 w1 h1 hadv => ?_))
          rotate_left
          · have he1 := heR.rel hadv.n hadv.env hadv.bs hadv.rel hadv.old
            obtain ⟨st', ⟨hK, hl⟩, g1, g2, g3, g4⟩ := condOut_len hadv.mem he1 h1
            have := ((hinv.mv hmR (OwnEq.refl _)).adv hst hadv).mv g2 hl
            exact hQp pc st' a w1 hK ⟨ρ1, S1, g1, g4, this.inv, this.df⟩
          have he1 := heR.rel hadv.n hadv.env hadv.bs hadv.rel hadv.old
          obtain ⟨st2, ⟨h2, hch2⟩, he2, hm2, hn2⟩ := putK_len hadv.mem he1 (fun _ => hs) (fun p hp => by simp at hp) hoi h1
          rw [if_pos (show holds st1.bs [] from trivial)] at he2
          refine rops_plain hcf h0 hst hQ hQp r is st2 ρ1 S1 w1 _ hl' he2 ?_ h2
          rw [put_defers]
          exact ((hinv.mv hmR (OwnEq.refl _)).adv hst hadv).mv hm2 (OwnEq.of hch2)
        · simp only [wpList]
          rw [if_neg (fun h => hL (hw.1 h))]
          obtain ⟨st2, ⟨h2, hch2⟩, he2, hm2, hn2⟩ := putK_len hinv.inv.mem he (fun hh => absurd hh hL) hcl hoi h
          rw [if_neg hL] at he2
          refine rops_plain hcf h0 hst hQ hQp r is st2 ρ S w _ hl' he2 ?_ h2
          rw [put_defers]
          exact hinv.mv hm2 (OwnEq.of hch2)

theorem exec_sound : ∀ (c : Code) (cf : Cfg) (cx : Ctx) (r : Option Nat) (n : Nat) (st : St) (K : Exit → St → Prop) (Q : Exit → Act → World → Prop), CfgOk cf → CxOk cf cx → cx.k ≤ 300 → (cf.rd = false → r = none) →
    exec cf cx.k c st K → (∀ e st' a w, K e st' → Sat cx st' a w → Q e a w) → ∀ a w, Sat cx st a w → c.wpIn (FF r) n cf.P Q a w
  | .skip, cf, cx, r, n, st, K, Q, hcf, hcx, hk, hrd, h, hQ, a, w, hs => wpIn_skip (hQ _ st a w h hs)
  | .label _, cf, cx, r, n, st, K, Q, hcf, hcx, hk, hrd, h, hQ, a, w, hs => wpIn_label (hQ _ st a w h hs)
  | .ret, cf, cx, r, n, st, K, Q, hcf, hcx, hk, hrd, h, hQ, a, w, hs => wpIn_ret (hQ _ st a w h hs)
  | .exit id, cf, cx, r, n, st, K, Q, hcf, hcx, hk, hrd, h, hQ, a, w, hs => wpIn_exit (hQ _ st a w h hs)
  | .goto l, cf, cx, r, n, st, K, Q, hcf, hcx, hk, hrd, h, hQ, a, w, hs => wpIn_goto (hQ _ st a w h hs)
  | .region id ops false, cf, cx, r, n, st, K, Q, hcf, hcx, hk, hrd, h, hQ, a, w, hs => by
    obtain ⟨ρ, S, he, hbs, hinv, hdf⟩ := hs
    exact wpIn_region_list (rops_sound (ops := ops) hcf hcx (fun st' a' w' hK hs' => hQ _ st' a' w' hK hs') (fun pc st' a' w' hK hs' => hQ _ st' a' w' hK hs') ops.toList nats st ρ S w a (fun j i o hj ho => by have := nats_get j i hj; subst this; simpa using ho) (he ops) ⟨hinv, hdf⟩ h)
  | .region id ops true, cf, cx, r, n, st, K, Q, hcf, hcx, hk, hrd, h, hQ, a, w, hs => by
    obtain ⟨ρ, S, he, hbs, hinv, hdf⟩ := hs
    have hiD : InvD cx st ρ S w a.defers := ⟨hinv, hdf⟩
    have hb : CC w { w with drawn := w.drawn + 1 } := Below.drew (Below.refl _ _)
    simp only [exec] at h
    split at h
    · exact h.elim
    rename_i hnd
    have hcf0 : CfgOk { cf with yN := 0 } := ⟨hcf.mix, hcf.tt, hcf.fns⟩
    refine region_draw hcf.mix hnd ?_
    have hQ' : ∀ st' a' w', K .normal st' → Sat cx st' a' w' → (fun e a w => (e = Exit.normal ∨ ∃ pc, e = Exit.panic pc) ∧ Q e a w) .normal a' w' := fun st' a' w' h1 h2 => ⟨.inl rfl, hQ _ st' a' w' h1 h2⟩
    have hQp' : ∀ pc st' a' w', K (.panic pc) st' → Sat cx st' a' w' → (fun e a w => (e = Exit.normal ∨ ∃ pc, e = Exit.panic pc) ∧ Q e a w) (.panic pc) a' w' := fun pc st' a' w' h1 h2 => ⟨.inr ⟨pc, rfl⟩, hQ _ st' a' w' h1 h2⟩
    rcases h with ⟨hB, h⟩ | ⟨m, hB, h⟩ | ⟨π, ms, τ, hB, h⟩ | ⟨π, cs, τ, mks, hB, h⟩
    case inr.inr.inr =>
      have hiw := hiD.below' hcx.stab hb
      refine wpAny_mixed (Qp := fun pc a' w' => ∃ st', K (.panic pc) st' ∧ noDst ops.toList st' ∧ Sat cx st' a' w') (fun i oi pc a' v w' hoi ⟨st', g1, g2, ρ', S', g3, g4, g5, g6⟩ => ⟨st', g1, g2, ρ', S', fun ops' => EnvOk.anyOps g2.1 ((g3 ops).put_back g2 hoi), g4, g5, by rw [put_defers] at g6; exact g6⟩) (MaskR.rel st.ch ρ mks) (fun pc a' w' ⟨st', g1, _, g3⟩ => hQp' pc st' a' w' g1 g3) (catN π (plainN cs)) (forcedN cs) τ hB ?_
      rw [catN_eq]
      refine fops_sound hcf hcx.stab (fun i => by
        have := hinv.mem.ccl i
        rw [hbs] at this
        cases hL : condsOf (chGet st.ch i) with
        | nil => rfl
        | cons p q => rw [hL] at this; obtain ⟨e, he⟩ := this p (by simp); simp [lookB] at he) (Kp := fun pc => K (.panic pc)) (fun pc st' ρ' S' a' w' g1 g2 g3 g4 => ⟨st', g1, g2, ρ', S', fun ops' => EnvOk.anyOps g2.1 g3, g2.1, g4.inv, g4.df⟩) (K2 := fun st2 => match opsAt ops.toList τ with | some lo => rops { cf with yN := 0 } cf.tt lo τ st2 (K .normal) (fun pc => K (.panic pc)) | none => False) (fun st' ρ' S' a' w' h1 h2 h3 => ?_) cs (fun c hc hb => forcedN_mem cs c hc hb) π st S _ a rfl (he ops) hiw h
      cases hlo : opsAt ops.toList τ with
      | none => rw [hlo] at h1; exact h1.elim
      | some lo =>
        rw [hlo] at h1
        obtain ⟨g1, g2⟩ := opsAt_get ops τ lo hlo
        rw [wpOps_of_list τ lo g1 g2]
        exact rops_plain (ops := ops) (cf := { cf with yN := 0 }) hcf0 rfl hcx.stab hQ' hQp' lo τ st' ρ' S' w' a' g2 h2 h3 h1
    case inr.inr.inl =>
      refine wpAny_mixed (Qp := fun pc a' w' => ∃ st', K (.panic pc) st' ∧ noDst ops.toList st' ∧ Sat cx st' a' w') (fun i oi pc a' v w' hoi ⟨st', g1, g2, ρ', S', g3, g4, g5, g6⟩ => ⟨st', g1, g2, ρ', S', fun ops' => EnvOk.anyOps g2.1 ((g3 ops).put_back g2 hoi), g4, g5, by rw [put_defers] at g6; exact g6⟩) RelC.CC (fun pc a' w' ⟨st', g1, _, g3⟩ => hQp' pc st' a' w' g1 g3) π ms τ hB ?_
      refine mops_sound hcf hcx.stab (fun pc st' ρ' S' a' w' g1 g2 g3 g4 => ⟨st', g1, g2, ρ', S', fun ops' => EnvOk.anyOps g2.1 g3, g2.1, g4.inv, g4.df⟩) (fun st' ρ' S' a' w' h1 h2 h3 => ?_) π st ρ S _ a (he ops) (hiD.below' hcx.stab hb) h
      cases hlo : opsAt ops.toList τ with
      | none => rw [hlo] at h1; exact h1.elim
      | some lo =>
        rw [hlo] at h1
        obtain ⟨g1, g2⟩ := opsAt_get ops τ lo hlo
        rw [wpOps_of_list τ lo g1 g2]
        exact rops_plain (ops := ops) (cf := { cf with yN := 0 }) hcf0 rfl hcx.stab hQ' hQp' lo τ st' ρ' S' w' a' g2 h2 h3 h1
    case inr.inl =>
      have hB' : Region.lexTailB .any ops.toList.toArray m = true := by rw [Array.toArray_toList]; exact hB
      have hn : m < ops.toList.length := by
        simp only [Region.lexTailB, Bool.and_eq_true, decide_eq_true_eq] at hB
        have := hB.1.1.1.2
        simpa using this
      have key := wpAny_tail' (P := cf.P) (Q := fun e a w => (e = Exit.normal ∨ ∃ pc, e = Exit.panic pc) ∧ Q e a w) (a := a) (w := { w with drawn := w.drawn + 1 }) (l := ops.toList) m hB'
      rw [Array.toArray_toList] at key
      refine key ?_
      rw [takeL_eq, dropL_eq] at h
      refine wpStill_mono (fun a' hq => ?_) _ _ (hops_sound (ops := ops) (w0 := w) (w1 := { w with drawn := w.drawn + 1 }) hcf hb (ops.toList.take m) nats 0 st ρ a (fun j hj => by
        have hj' : j < m := by simp at hj; omega
        simp [List.getElem?_take, hj']) (fun j i hj => by have := nats_get j i hj; omega) hinv.mem (he _) h)
      obtain ⟨st', ρ', is', g1, g2, g3, g5, g6, g7, g8, g9, g10⟩ := hq
      refine rops_plain (ops := ops) (cf := { cf with yN := 0 }) hcf0 rfl hcx.stab hQ' hQp' (ops.toList.drop m) is' st' ρ' S _ a' (fun j i o hj ho => by have := g7 j i hj; simp only [List.length_take] at this; rw [List.getElem?_drop] at ho; rw [show i = m + j by omega]; simpa using ho) g2 ?_ g1
      rw [g10]
      exact hiD.grown hcx.stab (g3.below hb) hb g5 g6 g8 g9
    refine wpAny_quiet' (C := CC w) hB hb ?_
    refine wpQuiet_mono (fun a' hq w' hw' => ?_) _ _ (qops_sound (ops := ops) hcf ops.toList nats 0 st ρ a (by simp) (fun j i hj => by have := nats_get j i hj; omega) hinv.mem (he ops) h)
    obtain ⟨st', ρ', g1, g2, g3, g4, g5, g6, g7, g8, g9⟩ := hq
    have := hiD.grown hcx.stab (g3.below hw') hw' g5 g6 g7 g8
    exact ⟨.inl rfl, hQ _ st' a' w' g1 ⟨ρ', S, g2, g4, this.inv, by rw [g9]; exact this.df⟩⟩
  | .seq x y, cf, cx, r, n, st, K, Q, hcf, hcx, hk, hrd, h, hQ, a, w, hs => by
    refine wpIn_seq (exec_sound x cf cx r n st _ _ hcf hcx hk hrd h (fun e st' a' w' hK hs' => ?_) a w hs)
    cases e with
    | normal => exact exec_sound y cf cx r n st' K Q hcf hcx hk hrd hK hQ a' w' hs'
    | _ => exact hQ _ st' a' w' hK hs'
  | .cond c x y, cf, cx, r, n, st, K, Q, hcf, hcx, hk, hrd, h, hQ, a, w, hs => by
    simp only [exec] at h
    split at h
    · rename_i t hc
      obtain ⟨ρ, S, he, hbs, hinv, hdf⟩ := hs
      have hev := (getV_sound (he #[]) (L := []) trivial hc).1
      simp only [den] at hev
      refine wpIn_cond_split hev (fun ht => ?_) (fun ht => ?_)
      · exact exec_sound x cf cx r n st K Q hcf hcx hk hrd (h.1 ht) hQ a w ⟨ρ, S, he, hbs, hinv, hdf⟩
      · exact exec_sound y cf cx r n st K Q hcf hcx hk hrd (h.2 ht) hQ a w ⟨ρ, S, he, hbs, hinv, hdf⟩
    · exact h.elim
  | .block id b, cf, cx, r, n, st, K, Q, hcf, hcx, hk, hrd, h, hQ, a, w, hs => by
    refine wpIn_block (exec_sound b cf cx r n st _ _ hcf hcx hk hrd h (fun e st' a' w' hK hs' => ?_) a w hs)
    cases e with
    | exit id' =>
      simp only at hK
      simp only [Exit.inBlock]
      split at hK
      · rename_i hb; rw [if_pos (Nat.eq_of_beq_eq_true hb)]; exact hQ _ st' a' w' hK hs'
      · rename_i hb; rw [if_neg (Nat.ne_of_beq_eq_false hb)]; exact hQ _ st' a' w' hK hs'
    | _ => exact hQ _ st' a' w' hK hs'
  | .loop b, cf, cx, r, n, st, K, Q, hcf, hcx, hk, hrd, h, hQ, a, w, hs => by
    obtain ⟨ι, mk, μ, ⟨m, i0, hent⟩, hround⟩ := h
    refine wpIn_loop_ghost (fun n a w => ∃ i, μ i = n ∧ Sat cx (mk i) a w) (μ i0) ⟨i0, rfl, hent.sat hk hs⟩ fun k a w ⟨i, hi, hs⟩ => ?_
    subst hi
    refine exec_sound b cf cx r n (mk i) _ _ hcf hcx hk hrd (hround i) (fun e st' a' w' hK hs' => ?_) a w hs
    cases e with
    | normal =>
      obtain ⟨m', i', hent', hlt⟩ := hK
      exact ⟨μ i', hlt, i', rfl, hent'.sat hk hs'⟩
    | _ => exact hQ _ st' a' w' hK hs'
  | .rangeFunc f ps x y, cf, cx, r, n, st, K, Q, hcf, hcx, hk, hrd, h, hQ, a, w, hs => by
    have hr0 : cf.rd = false := by
      simp only [exec] at h
      split at h
      · assumption
      · exact h.elim
    have := hrd hr0
    subst this
    have hcf' : CfgOk { cf with rd := true, yN := 0 } := ⟨hcf.mix, hcf.tt, hcf.fns⟩
    exact rangeFunc_sound hcf hk (fun cx' l st' K' Q' h1 h2 h3 h4 => exec_sound x { cf with rd := true, yN := 0 } cx' (some l) 0 st' K' Q' hcf' h1 h2 (fun h => by simp at h) h3 h4)
      (fun cx' l st' K' Q' h1 h2 h3 h4 => exec_sound y { cf with rd := true, yN := 0 } cx' (some l) 0 st' K' Q' hcf' h1 h2 (fun h => by simp at h) h3 h4) h hQ hs
  | .scope b, cf, cx, r, n, st, K, Q, hcf, hcx, hk, hrd, h, hQ, a, w, hs => by
    simp only [exec] at h
    split at h
    · exact h.elim
    rename_i hr0
    have := hrd hr0
    subst this
    refine (wpIn_wide (n := n)).2 ?_
    rcases h with h | ⟨l, rest, ι, mk, μ, hf, hfirst, hpass⟩
    · refine wp_scope_straight ((wpIn_wide (n := n)).1 (exec_sound b cf cx none n st _ _ hcf hcx hk hrd h (fun e st' a' w' hK hs' => ?_) a w hs))
      cases e with
      | goto l => exact hK.elim
      | _ => exact hQ _ st' a' w' hK hs'
    · let p : Act → World → Nat → Prop := fun a w n => ∃ i, μ i = n ∧ Sat cx (mk i) a w
      refine wp_scope_jumps l (fun a w => ∃ n, p a w n) (fun a w => leastOf (p a w)) hf ((wpIn_wide (n := n)).1 (exec_sound b cf cx none n st _ _ hcf hcx hk hrd hfirst (fun e st' a' w' hK hs' => ?_) a w hs)) ?_
      · cases e with
        | goto l' => obtain ⟨e, m, i0, hent⟩ := hK; exact ⟨e, μ i0, i0, rfl, hent.sat hk hs'⟩
        | _ => exact hQ _ st' a' w' hK hs'
      · intro a w hJ
        obtain ⟨⟨i, hi, hs⟩, _⟩ := leastOf_spec hJ
        refine hpass i cx _ hcx rfl (fun e st' a' w' hK hs' => ?_) a w hs
        cases e with
        | goto l' =>
          obtain ⟨e, m, i', hent, hlt⟩ := hK
          have hp : p a' w' (μ i') := ⟨i', rfl, hent.sat hk hs'⟩
          refine ⟨e, ⟨_, hp⟩, ?_⟩
          have := (leastOf_spec ⟨_, hp⟩).2 _ hp
          show leastOf (p a' w') < leastOf (p a w)
          rw [← hi]
          omega
        | _ => exact hQ _ st' a' w' hK hs'
  | .refuse _, cf, cx, r, n, st, K, Q, hcf, hcx, hk, hrd, h, hQ, a, w, hs => h.elim

theorem good_of_exec {cf : Cfg} (hcf : CfgOk cf) {k : Nat} (hk : Nat.ble k 300 = true) {c : Code} {st : St} {K : Exit → St → Prop} (h : exec cf k c st K) (hrd : cf.rd = false := by rfl) : Good cf k c st K :=
  fun cx Q hcx hk' hQ a w hs => (wpIn_wide (n := 0)).1 (exec_sound c cf cx none 0 st K Q hcf hcx (by rw [hk']; exact Nat.le_of_ble_eq_true hk) (fun _ => rfl) (by rw [hk']; exact h) hQ a w hs)
end Go.Eng

/-! part Snd15 -/
namespace Go.Eng
open Go.RowKit
open Classical

/-! ### a function's entry and its results -/
def entEnv : List SV → List Nat → List Ent
  | [], _ => []
  | _ :: _, [] => []
  | s :: r, i :: is => ⟨i, [], s⟩ :: entEnv r is

def resSV (tt : TT) (st : St) : ResultVar → Option SV
  | .tmp t => getV st [] (.tmp t)
  | .cell a t => match getV st [] (.tmp a), knownD (ttGet tt t).d with
    | some (.bx id off), true => (match chGet st.ch id with
      | .bx _ cells => (match isAggD (ttGet tt t).d with
        | false => (match dropL cells off with | s :: _ => some s | [] => none)
        | true => (match Nat.ble (off + (ttGet tt t).size) cells.length with | true => some (.agg (takeL (dropL cells off) (ttGet tt t).size)) | false => none))
      | _ => none)
    | _, _ => none
def resSVs (tt : TT) (st : St) : List ResultVar → Option (List SV)
  | [] => some []
  | r :: rs => match resSV tt st r with
    | some s => (match resSVs tt st rs with | some l => some (s :: l) | none => none)
    | none => none
def retVal (ρ : Nat → Value) : List SV → Value
  | [s] => den ρ s
  | l => .tuple (denL ρ l).toArray

/-- what a function's walk leans on -/
abbrev rc (w : World) (F : Nat → Prop) (k : Nat) (ρ : Nat → Value) (S0 : Nat → Prop) : Ctx := { wE := w, F := F, k := k, ρ0 := ρ, S0 := S0 }

def retK (cf : Cfg) (cx : Ctx) (res : List ResultVar) (R : Ending → World → Prop) (e : Exit) (st : St) : Prop :=
  match e with
  | .normal | .ret => (match resSVs cf.tt st res with
    | some l => ∀ ρ S w', Inv cx st ρ S w' → R (.returned (retVal ρ l)) w'
    | none => False)
  | .panic pc => ∀ ρ S w', Inv cx st ρ S w' → R (.panicked pc) w'
  | _ => False

section
variable {cx : Ctx} {cf : Cfg} {ρ : Nat → Value} {S : Nat → Prop} {w : World}

def resM (tmps : Array Value) : ResultVar → Sem Value
  | .tmp t => pure (tmps.getD t undef)
  | .cell a t => do loadVar t (← asAddr (tmps.getD a undef))

theorem resSV_sound (hcf : CfgOk cf) {st : St} {a : Act} (hm : MemOk st ρ S w) (he : EnvOk #[] st ρ a) {r : ResultVar} {s : SV} (h : resSV cf.tt st r = some s) :
    (resM a.tmps r).run cf.P w = .ok (den ρ s) w := by
  cases r with
  | tmp t =>
    have h : getV st [] (.tmp t) = some s := h
    have := (getV_sound he (L := []) trivial h).1
    simp only [Act.eval] at this
    simp only [resM, Sem.run_pure, this]
  | cell ad t =>
    simp only [resSV] at h
    split at h
    case h_2 => cases h
    rename_i id off hg hk
    obtain ⟨h1, h2⟩ := getV_sound he (L := []) trivial hg
    simp only [svOk] at h2
    split at h
    case h_2 => cases h
    rename_i t' cells hc
    obtain ⟨b, hb, hgb⟩ := (hc ▸ hm.ok id h2 : ChunkOk _ _ _ _ (.bx t' cells) _)
    have hno : (ttGet cf.tt t).d ≠ .other := by intro e; rw [e] at hk; simp [knownD] at hk
    have hty := hcf.tt t
    simp only [Act.eval, den, hb, Nat.zero_add] at h1
    have key : ∀ v, (loadVar t ⟨b, off, none⟩).run cf.P w = .ok v w → (resM a.tmps (.cell ad t)).run cf.P w = .ok v w := by
      intro v hv
      simp only [resM, h1, asAddr, Sem.run_bind, Sem.run_pure, Result.andThen_ok, hv]
    refine key _ ?_
    split at h
    · rename_i hag
      split at h
      · rename_i s' _ hdr
        simp only [Option.some.injEq] at h
        subst h
        rw [dropL_eq] at hdr
        have hget : cells[off]? = some s' := by have := congrArg (·[0]?) hdr; simpa using this
        refine run_loadVar_scalar (by rw [isAgg_run hty hno, hag]) ?_
        rw [cell_of_row w b off _ t' (0, 0) hgb, denL_eq]
        simp [hget]
      · cases h
    · rename_i hag
      split at h
      · rename_i hle
        simp only [Option.some.injEq] at h
        subst h
        have hle := Nat.le_of_ble_eq_true hle
        simp only [den]
        refine run_loadVar_agg (by rw [isAgg_run hty hno, hag]) (by rw [sizeOf_run hty hno]; simp only [denL_eq, takeL_eq, dropL_eq, List.length_map, List.length_take, List.length_drop]; congr 1; omega) fun j v hv => ?_
        rw [Addr.add_lit, cell_of_row w b _ _ t' (0, 0) hgb]
        simp only [denL_eq, takeL_eq, dropL_eq, List.getElem?_map, List.getElem?_take, List.getElem?_drop] at hv ⊢
        simp only [List.getElem?_toArray, List.getElem?_map]
        split at hv
        · exact hv
        · simp at hv
      · cases h

theorem resSVs_sound (hcf : CfgOk cf) {st : St} {a : Act} (hm : MemOk st ρ S w) (he : EnvOk #[] st ρ a) : ∀ (rs : List ResultVar) (l : List SV), resSVs cf.tt st rs = some l →
    (rs.mapM (resM a.tmps)).run cf.P w = .ok (denL ρ l) w
  | [], l, h => by simp only [resSVs, Option.some.injEq] at h; subst h; rfl
  | r :: rs, l, h => by
    simp only [resSVs] at h
    split at h
    · rename_i s hs
      split at h
      · rename_i l' hl
        simp only [Option.some.injEq] at h
        subst h
        have h1 := resSV_sound hcf hm he hs
        have h2 := resSVs_sound hcf hm he rs l' hl
        simp only [List.mapM_cons, Sem.run_bind, h1, Result.andThen_ok, h2, Sem.run_pure, denL]
      · cases h
    · cases h

theorem results_run (hcf : CfgOk cf) {fn : Func} {st : St} {a : Act} (hm : MemOk st ρ S w) (he : EnvOk #[] st ρ a) {l : List SV} (h : resSVs cf.tt st fn.results.toList = some l) :
    (results fn a.tmps).run cf.P w = .ok (retVal ρ l) w := by
  have := resSVs_sound hcf hm he _ _ h
  have e : results fn a.tmps = (do let vs ← fn.results.mapM (resM a.tmps); pure (if h : vs.size = 1 then vs[0] else .tuple vs)) := by
    unfold results
    congr 2
  rw [e, Array.mapM_eq_mapM_toList]
  simp only [Sem.run_bind, Sem.run_map, this, Result.andThen_ok, Sem.run_pure]
  cases l with
  | nil => simp [denL, retVal]
  | cons s r =>
    cases r with
    | nil => simp [denL, retVal]
    | cons s' r' => simp [denL, retVal]

theorem entEnv_look : ∀ (svs : List SV) (is : List Nat) (k : Nat), (∀ (j i : Nat), is[j]? = some i → i = k + j) → ∀ d e, lookE (entEnv svs is) d = some e → e.cond = [] ∧ k ≤ d ∧ svs[d - k]? = some e.sv
  | [], is, k, _, d, e, h => by simp [entEnv, lookE] at h
  | s :: r, [], k, _, d, e, h => by simp [entEnv, lookE] at h
  | s :: r, i :: is, k, hi, d, e, h => by
    have hik : i = k := by simpa using hi 0 i rfl
    subst hik
    simp only [entEnv, lookE_cons] at h
    split at h
    · rename_i hd
      have hd : i = d := hd
      subst hd
      simp only [Option.some.injEq] at h
      subst h
      exact ⟨rfl, Nat.le_refl _, by simp⟩
    · rename_i hd
      have hd : ¬ i = d := hd
      obtain ⟨h1, h2, h3⟩ := entEnv_look r is (i + 1) (fun j x hx => by have := hi (j + 1) x (by simpa using hx); omega) d e h
      refine ⟨h1, by omega, ?_⟩
      rw [show d - i = (d - (i + 1)) + 1 from by omega]
      simpa using h3

theorem svOkL_mem {ch : List Chunk} : ∀ {l : List SV} {s : SV} {i : Nat}, svOkL ch l → l[i]? = some s → svOk ch s := fun h hs => svOkL_get _ _ _ h hs

/-- marks alone are come to on the way out -/
theorem leaves_marks {P : Program} {fn : Func} {tmps : Array Value} {R : Ending → World → Prop} {u : FrameMode} (hu : u ≠ .run) : ∀ (Ds : List Nat) (w : World), Ds.Nodup → (∀ D ∈ Ds, w.heap[D]? = some (.deferred (some []))) →
    (∀ w', w'.heap.size = w.heap.size → w'.os = w.os → w'.tape = w.tape → w'.output = w.output → (∀ b, b ∉ Ds → w'.heap[b]? = w.heap[b]?) → LeavesIn Fence.wide 0 P fn tmps R [] u w') →
    LeavesInM Fence.wide 0 P fn tmps R (Ds.map fun D => ({ target := .collected D, args := #[] } : Deferred)) u w
  | [], w, _, _, h => h w rfl rfl rfl rfl (fun _ _ => rfl)
  | D :: Ds, w, hn, hD, h => by
    obtain ⟨hn1, hn2⟩ := List.nodup_cons.1 hn
    refine ⟨hu, .inl ⟨D, _, rfl, run_takeDeferred (hD D (by simp)), ?_⟩⟩
    refine leaves_marks hu Ds _ hn2 (fun D' hD' => ?_) (fun w' h1 h2 h3 h4 h5 => ?_)
    · exact (World.putObj_heap_other (r := D) (fun e => hn1 (by rw [← e]; exact hD'))).trans (hD D' (by simp [hD']))
    · refine h w' (by simpa using h1) h2 h3 h4 (fun b hb => ?_)
      simp only [List.mem_cons, not_or] at hb
      exact (h5 b hb.2).trans (World.putObj_heap_other hb.1)

/-- behind the marks all is as it was -/
theorem Inv.marks (hst : ∀ go, Stab (cx.J go)) {st : St} {ρ : Nat → Value} {S : Nat → Prop} {w w' : World} {Ds : List Nat} (h : Inv cx st ρ S w) (hy : Ds ≠ [] → ∀ id l go n, chGet st.ch id ≠ .yk l go n)
    (hD : ∀ D ∈ Ds, w.heap[D]? = some (.deferred (some [])) ∧ cx.wE.heap.size ≤ D ∧ ¬ S D ∧ ∀ i, i < st.ch.length → ownBlk (chGet st.ch i) (ρ i) ≠ some D)
    (h1 : w'.heap.size = w.heap.size) (h2 : w'.os = w.os) (h3 : w'.tape = w.tape) (h4 : w'.output = w.output) (h5 : ∀ b, b ∉ Ds → w'.heap[b]? = w.heap[b]?) : Inv cx st ρ S w' := by
  have hS : ∀ b, S b → w'.heap[b]? = w.heap[b]? := fun b hb => h5 b (fun hm => (hD b hm).2.2.1 hb)
  have hO : ∀ i b, i < st.ch.length → ownBlk (chGet st.ch i) (ρ i) = some b → w'.heap[b]? = w.heap[b]? := fun i b hi e => h5 b (fun hm => (hD b hm).2.2.2 i hi e)
  have hF : ∀ b, cx.F b → w'.heap[b]? = w.heap[b]? := fun b hb => h5 b (fun hm => by have := (h.frm b hb).1; have := (hD b hm).2.1; omega)
  cases hDs : Ds with
  | cons a r => exact h.stab (hy (by rw [hDs]; simp)) hS hO hF (by omega) h2 h3 h4
  | nil =>
    have hall : ∀ b, w'.heap[b]? = w.heap[b]? := fun b => h5 b (by rw [hDs]; simp)
    have hheap : w'.heap = w.heap := Array.ext_getElem? hall
    exact ⟨h.mem.stab hS hO (by omega), fun b hb => by obtain ⟨g1, g2, g3⟩ := h.frm b hb; exact ⟨g1, (hF b hb).trans g2, g3⟩, by rw [hheap]; exact h.size, h2.trans h.os, h3.trans h.tape, h4.trans h.output, h.kle, h.anch, fun id l go n e => by
      obtain ⟨g1, U, g2, g3, g4⟩ := h.yl id l go n e
      exact ⟨g1, U, hst go U n w w' g2 (fun b _ => hall b) (by omega) h2 h3 h4, fun b hb => ⟨by have := (g3 b hb).1; omega, (g3 b hb).2⟩, g4⟩, h.one, h.sf⟩

/-- a call, by its text walked -/
theorem calls_execG {K : Exit → St → Prop} (hcf : CfgOk cf) (hrd : cf.rd = false) (hcx : CxOk cf cx) {f : FuncId} {fn : Func} {c : Code} {args : Array Value} {R : Ending → World → Prop} (hf : cf.P.funcs[f]? = some fn) (hb : fn.body = some c)
    (svs : List SV) (chs : List Chunk) (hk : Nat.ble chs.length 300 = true) (hn : Nat.ble svs.length fn.ntmps = true) (hargs : args = (denL ρ svs).toArray) (hsv : svOkL chs svs) (hck : cx.k = chs.length) (hwE : cx.wE = w) (hdd : cx.dd = [])
    (hinv : Inv cx ⟨fn.ntmps, entEnv svs nats, chs, [], dropL nats chs.length⟩ ρ S w)
    (hKR : ∀ e st, K e st → retK cf cx fn.results.toList R e st) (h : exec cf chs.length c ⟨fn.ntmps, entEnv svs nats, chs, [], dropL nats chs.length⟩ K) : CallsIn Fence.wide 0 cf.P f args w R := by
  have hn := Nat.le_of_ble_eq_true hn
  have hk := Nat.le_of_ble_eq_true hk
  refine callsIn_of_wp_marks hf hb trivial ?_
  refine exec_sound c cf cx none 0 _ K _ hcf hcx (by rw [hck]; exact hk) (fun _ => rfl) (by rw [hck]; exact h) (fun e st' a' w' hK hs => ?_) _ _ ?_
  · have hK := hKR e st' hK
    obtain ⟨ρ', S', he, hbs, hinv, Ds, hdl, hnd, hny, hDs⟩ := hs
    rw [hdd, List.append_nil] at hdl
    have key : (match resSVs cf.tt st' fn.results.toList with | some l => ∀ ρ S w', Inv cx st' ρ S w' → R (.returned (retVal ρ l)) w' | none => False) → LeavesInM Fence.wide 0 cf.P fn a'.tmps R a'.defers .returning w' := by
      intro hK
      split at hK
      · rename_i l hl
        rw [hdl]
        refine leaves_marks (by simp) Ds w' hnd (fun D hD => (hDs D hD).1) (fun w2 h1 h2 h3 h4 h5 => ?_)
        have hi2 := hinv.marks hcx.stab hny hDs h1 h2 h3 h4 h5
        exact ⟨_, results_run hcf hi2.mem (he #[]) hl, hK ρ' S' w2 hi2⟩
      · exact hK.elim
    cases e with
    | normal => exact key hK
    | ret => exact key hK
    | panic pc =>
      show LeavesInM Fence.wide 0 cf.P fn a'.tmps R a'.defers (.panicking pc) w'
      rw [hdl]
      refine leaves_marks (by simp) Ds w' hnd (fun D hD => (hDs D hD).1) (fun w2 h1 h2 h3 h4 h5 => ?_)
      exact hK ρ' S' w2 (hinv.marks hcx.stab hny hDs h1 h2 h3 h4 h5)
    | _ => exact hK.elim
  · refine ⟨ρ, S, fun ops => ⟨?_, ?_, ?_, ?_, fun e h => by simp at h, fun e h => by simp at h⟩, rfl, hinv, ⟨[], by rw [hdd]; rfl, List.nodup_nil, fun h => absurd rfl h, fun D hD => by simp at hD⟩⟩
    · subst hargs
      simp only [Array.size_append, List.size_toArray, denL_eq, List.length_map, Array.size_replicate]
      omega
    · intro d e hl hj
      obtain ⟨h1, _, h3⟩ := entEnv_look svs nats 0 (fun j i hj => by have := nats_get j i hj; omega) d e hl
      rw [h1, if_pos (show holds _ [] from trivial)]
      rw [Nat.sub_zero] at h3
      have hlt := (List.getElem?_eq_some_iff.1 h3).1
      subst hargs
      simp only
      rw [Array.getElem?_append_left (by simp [denL_eq]; exact hlt)]
      simp [denL_eq, h3]
    · intro d e hl _
      obtain ⟨h1, _, h3⟩ := entEnv_look svs nats 0 (fun j i hj => by have := nats_get j i hj; omega) d e hl
      exact svOkL_get _ _ _ hsv h3
    · intro d e hl
      rw [(entEnv_look svs nats 0 (fun j i hj => by have := nats_get j i hj; omega) d e hl).1]
      intro p hp
      simp at hp

/-- the same, for a function that is no iterator; F: what is kept, S: what may be read -/
theorem calls_exec2 (hcf : CfgOk cf) (hrd : cf.rd = false) (hy0 : cf.yN = 0) {f : FuncId} {fn : Func} {c : Code} {args : Array Value} {R : Ending → World → Prop} (hf : cf.P.funcs[f]? = some fn) (hb : fn.body = some c)
    (svs : List SV) (chs : List Chunk) (F S : Nat → Prop) (hk : Nat.ble chs.length 300 = true) (hn : Nat.ble svs.length fn.ntmps = true) (hargs : args = (denL ρ svs).toArray) (hsv : svOkL chs svs) (hny : noYk chs = true)
    (hm : MemOk ⟨fn.ntmps, entEnv svs nats, chs, [], dropL nats chs.length⟩ ρ S w) (hF : ∀ b, F b → b < w.heap.size ∧ ∀ i, i < chs.length → ownBlk (chGet chs i) (ρ i) ≠ some b)
    (h : exec cf chs.length c ⟨fn.ntmps, entEnv svs nats, chs, [], dropL nats chs.length⟩ (retK cf { wE := w, F := F, k := chs.length, ρ0 := ρ, S0 := S } fn.results.toList R)) : Calls cf.P f args w R :=
  (callsIn_wide (n := 0)).1 (calls_execG hcf hrd (CxOk.triv hy0 (fun _ _ _ _ => rfl)) hf hb svs chs hk hn hargs hsv rfl rfl rfl
    ⟨hm, fun b hb => ⟨(hF b hb).1, rfl, (hF b hb).2⟩, Nat.le_refl _, rfl, rfl, rfl, Nat.le_refl _, fun _ _ => rfl, fun id l go n e => absurd e (noYk_get hny id l go n), fun p q lp gp np lq gq nq e1 _ => absurd e1 (noYk_get hny p lp gp np), fun _ _ hS => hS⟩ (fun _ _ h => h) h)

theorem calls_exec (hcf : CfgOk cf) {f : FuncId} {fn : Func} {c : Code} {args : Array Value} {R : Ending → World → Prop} (hf : cf.P.funcs[f]? = some fn) (hb : fn.body = some c)
    (svs : List SV) (chs : List Chunk) (F : Nat → Prop) (hk : Nat.ble chs.length 300 = true) (hn : Nat.ble svs.length fn.ntmps = true) (hargs : args = (denL ρ svs).toArray) (hsv : svOkL chs svs)
    (hm : MemOk ⟨fn.ntmps, entEnv svs nats, chs, [], dropL nats chs.length⟩ ρ F w)
    (h : exec cf chs.length c ⟨fn.ntmps, entEnv svs nats, chs, [], dropL nats chs.length⟩ (retK cf { wE := w, F := F, k := chs.length, ρ0 := ρ, S0 := F } fn.results.toList R))
    (hrd : cf.rd = false := by rfl) (hy0 : cf.yN = 0 := by rfl) (hny : noYk chs = true := by rfl) : Calls cf.P f args w R :=
  calls_exec2 hcf hrd hy0 hf hb svs chs F F hk hn hargs hsv hny hm (fun b hb => ⟨hm.lt b hb, fun i hi e => hm.out i b hi e hb⟩) h

theorem Inv.below {st : St} {w' : World} {cx : Ctx} (h : Inv cx st ρ S w') (hF : cx.F = (· < cx.wE.heap.size) := by rfl) : Below cx.wE.heap.size cx.wE w' :=
  ⟨h.os, h.tape, h.output, h.size, fun b hb => h.keep b (by rw [hF]; exact hb)⟩
end
end Go.Eng

/-! part Snd16 -/
namespace Go.Eng
open Go.RowKit
open Classical

/-! ### at a function's entry: its arguments -/
theorem memNil {n : Nat} {env : List Ent} {ids : List Nat} {ρ : Nat → Value} {S : Nat → Prop} {w : World} (hS : ∀ b, S b → b < w.heap.size) : MemOk ⟨n, env, [], [], ids⟩ ρ S w :=
  ⟨fun id h => by simp at h, fun id => by cases id <;> simp [chGet, cellsIn, svOkL], fun i j b hi => by simp at hi, fun i b hi => by simp at hi, hS, fun id => by cases id <;> (intro p hp; simp [chGet, condsOf] at hp)⟩

/-- arguments that are only read: a chunk each -/
def argsRd (S : Nat → Prop) (w : World) (ρ : Nat → Value) : List Chunk → Nat → Prop
  | [], _ => True
  | .rd α inh sz enc xs :: r, i => DRep S w (.sl α inh sz enc xs) (ρ i) ∧ argsRd S w ρ r (i + 1)
  | .rp [] cells :: r, i => DRep S w (.ptr cells) (ρ i) ∧ argsRd S w ρ r (i + 1)
  | _ :: _, _ => False

theorem argsRd_get {S : Nat → Prop} {w : World} {ρ : Nat → Value} : ∀ (l : List Chunk) (i : Nat), argsRd S w ρ l i → ∀ p, p < l.length → (∃ α inh sz enc xs, chGet l p = .rd α inh sz enc xs ∧ DRep S w (.sl α inh sz enc xs) (ρ (i + p))) ∨ (∃ cells, chGet l p = .rp [] cells ∧ DRep S w (.ptr cells) (ρ (i + p)))
  | [], i, _, p, h => by simp at h
  | c :: r, i, h, p, hp => by
    have step : argsRd S w ρ r (i + 1) → ∀ p, p < r.length → (∃ α inh sz enc xs, chGet r p = .rd α inh sz enc xs ∧ DRep S w (.sl α inh sz enc xs) (ρ (i + (p + 1)))) ∨ (∃ cells, chGet r p = .rp [] cells ∧ DRep S w (.ptr cells) (ρ (i + (p + 1)))) := by
      intro h p hp
      have := argsRd_get r (i + 1) h p hp
      rw [show i + (p + 1) = i + 1 + p from by omega]
      exact this
    cases c with
    | rd α inh sz enc xs =>
      simp only [argsRd] at h
      cases p with
      | zero => exact .inl ⟨α, inh, sz, enc, xs, rfl, h.1⟩
      | succ p => exact step h.2 p (by simpa using hp)
    | rp L cells =>
      cases L with
      | cons => simp [argsRd] at h
      | nil =>
        simp only [argsRd] at h
        cases p with
        | zero => exact .inr ⟨cells, rfl, h.1⟩
        | succ p => exact step h.2 p (by simpa using hp)
    | _ => simp [argsRd] at h

theorem memRd {n : Nat} {env : List Ent} {chs : List Chunk} {ids : List Nat} {ρ : Nat → Value} {S : Nat → Prop} {w : World} (hS : ∀ b, S b → b < w.heap.size) (h : argsRd S w ρ chs 0) : MemOk ⟨n, env, chs, [], ids⟩ ρ S w := by
  have hg := argsRd_get chs 0 h
  have key : ∀ p, (∃ α inh sz enc xs, chGet chs p = .rd α inh sz enc xs) ∨ (∃ cells, chGet chs p = .rp [] cells) ∨ chGet chs p = .dead := by
    intro p
    by_cases hp : p < chs.length
    · rcases hg p hp with ⟨α, inh, sz, enc, xs, h1, _⟩ | ⟨cells, h1, _⟩
      · exact .inl ⟨α, inh, sz, enc, xs, h1⟩
      · exact .inr (.inl ⟨cells, h1⟩)
    · exact .inr (.inr (chGet_out _ _ (by omega)))
  have own : ∀ p v, ownBlk (chGet chs p) v = none := by
    intro p v
    rcases key p with ⟨α, inh, sz, enc, xs, h1⟩ | ⟨cells, h1⟩ | h1 <;> rw [h1] <;> rfl
  refine ⟨fun p hp => ?_, fun p => ?_, fun i j b hi hj hij h1 => ?_, fun i b hi h1 => ?_, hS, fun p => ?_⟩
  · rcases hg p hp with ⟨α, inh, sz, enc, xs, h1, h2⟩ | ⟨cells, h1, h2⟩
    · simp only at h1 ⊢
      rw [h1]
      rw [Nat.zero_add] at h2
      exact h2
    · simp only at h1 ⊢
      rw [h1]
      rw [Nat.zero_add] at h2
      exact fun _ => h2
  · rcases key p with ⟨α, inh, sz, enc, xs, h1⟩ | ⟨cells, h1⟩ | h1 <;> simp only [h1, cellsIn, svOkL]
  · simp only [own] at h1; cases h1
  · simp only [own] at h1; cases h1
  · rcases key p with ⟨α', inh', sz', enc', xs', h1⟩ | ⟨cells, h1⟩ | h1 <;> (simp only [h1, condsOf]; intro q hq; simp at hq)

/-- a slice that is only read -/
def Rd (w : World) (v : Value) {α : Type} [inh : Inhabited α] (sz : Nat) (enc : α → List DV) (xs : List α) : Prop := DRep (· < w.heap.size) w (.sl α inh sz enc xs) v

/-- in a walk: the slice's facts, for a callee -/
theorem MemOk.rd {st : St} {ρ : Nat → Value} {S : Nat → Prop} {w : World} (hm : MemOk st ρ S w) (id : Nat) {α : Type} [inh : Inhabited α] {sz : Nat} {enc : α → List DV} {xs : List α} (hid : Nat.blt id st.ch.length = true) (hc : chGet st.ch id = .rd α inh sz enc xs) : Rd w (ρ id) sz enc xs := by
  have := hm.ok id (blt_lt hid)
  rw [hc] at this
  exact DRep.mono (fun b hb => hm.lt b hb) (fun _ _ => rfl) this

theorem MemOk.own {st : St} {ρ : Nat → Value} {S : Nat → Prop} {w : World} (hm : MemOk st ρ S w) (id : Nat) {t : TypeId} {α : Type} [inh : Inhabited α] {sz : Nat} {enc : α → List DV} {xs : List α} (hid : Nat.blt id st.ch.length = true) (hc : chGet st.ch id = .own t α inh sz enc xs) : Rd w (ρ id) sz enc xs := by
  have := hm.ok id (blt_lt hid)
  rw [hc] at this
  exact own_drep this _ (fun b hb => hm.lt b hb) (fun b hb => (World.ownsRow.lt this.choose_spec.1 b hb).2)

/-- the slice that stands written out in the text, as data -/
theorem MemOk.raw {st : St} {ρ : Nat → Value} {S : Nat → Prop} {w : World} (hm : MemOk st ρ S w) (id : Nat) {t n sz : Nat} {cells : List SV} (hid : Nat.blt id st.ch.length = true) (hc : chGet st.ch id = .raw t n sz cells) {α : Type} [inh : Inhabited α] {enc : α → List DV} (xs : List α) (ds : List DV)
    (hds : toDVs st cells = some ds) (hn : xs.length = n) (hx : ds = xs.flatMap enc) (hl : ∀ y ∈ xs, (enc y).length = sz) : Rd w (ρ id) sz enc xs := by
  have hid := blt_lt hid
  have hok := hm.ok id hid
  have hcl := hm.cells id
  rw [hc] at hok hcl
  obtain ⟨b, hv, hg⟩ := hok
  obtain ⟨h4, h5⟩ := toDVs_sound hm cells ds hcl hds
  rw [hv, ← hn]
  have hrep : ∀ (i j : Nat) d, i < xs.length → (enc (nth xs i))[j]? = some d → ∃ x, (denL ρ cells)[i * sz + j]? = some x ∧ DRep S w d x := by
    intro i j d hi hd
    have hj : j < sz := by
      have := hl (nth xs i) (by rw [nth_eq xs i hi]; exact List.getElem_mem _)
      have h6 := (List.getElem?_eq_some_iff.1 hd).1
      omega
    have := flatMap_get enc sz xs hl i j hi hj
    rw [← hx, hd] at this
    exact h5 _ d this
  refine .sl (some ⟨b, 0, none⟩) xs.length b 0 (fun i j => ((denL ρ cells)[i * sz + j]?).getD undef) (Nat.le_refl _) (fun _ => ⟨rfl, (Array.getElem?_eq_some_iff.1 hg).1⟩) (fun i j d hi hd => ?_) (fun i j d hi hd => ?_)
  · obtain ⟨x, h1, _⟩ := hrep i j d hi hd
    rw [Nat.zero_add, cell_of_row w b _ _ t (0, 0) hg, h1]
    simpa using h1
  · obtain ⟨x, h1, h2⟩ := hrep i j d hi hd
    simp only [h1, Option.getD_some]
    exact DRep.mono (fun b hb => hm.lt b hb) (fun _ _ => rfl) h2

/-! ### a new slice as a result -/
structure Fresh (w w' : World) (v : Value) (t : TypeId) {α : Type} [inh : Inhabited α] (sz : Nat) (enc : α → List DV) (xs : List α) : Prop where
  own : OwnOk (fun b => w.heap.size ≤ b ∧ b < w'.heap.size ∧ v.ownBlock ≠ some b) w' t α inh sz enc xs v
  new : ∀ b, v.ownBlock = some b → w.heap.size ≤ b

theorem Fresh.nil (w w' : World) (t : TypeId) {α : Type} [inh : Inhabited α] (sz : Nat) (enc : α → List DV) : Fresh w w' (.slice none 0 0) t sz enc ([] : List α) :=
  ⟨⟨[], World.ownsRow_nil _ _ _ _, fun i j d hi => by simp at hi⟩, fun b hb => by simp [Value.ownBlock] at hb⟩

/-- data without slices in it -/
def FlatE {α : Type} (enc : α → List DV) : Prop := ∃ f : α → List Value, ∀ x, enc x = (f x).map .v

theorem OwnOk.flat {S S' : Nat → Prop} {w : World} {t : TypeId} {α : Type} {inh : Inhabited α} {sz : Nat} {enc : α → List DV} {xs : List α} {v : Value} (hf : FlatE enc) (h : OwnOk S w t α inh sz enc xs v) : OwnOk S' w t α inh sz enc xs v := by
  obtain ⟨vals, ho, hv⟩ := h
  obtain ⟨f, hf⟩ := hf
  refine ⟨vals, ho, fun i j d hi hd => ?_⟩
  obtain ⟨x, h1, h2, h3⟩ := hv i j d hi hd
  refine ⟨x, h1, h2, ?_⟩
  rw [hf, List.getElem?_map] at hd
  cases hy : (f (nth xs i))[j]? with
  | none => simp [hy] at hd
  | some y =>
    simp only [hy, Option.map_some, Option.some.injEq] at hd
    subst hd
    cases h3 with
    | v _ h => exact .v _ h

theorem Inv.fresh {st : St} {w' : World} {cx : Ctx} {ρ : Nat → Value} {S : Nat → Prop} (h : Inv cx st ρ S w') (id : Nat) {t : TypeId} {α : Type} [inh : Inhabited α] {sz : Nat} {enc : α → List DV} {xs : List α} (hf : FlatE enc) (hid : Nat.blt id st.ch.length = true) (hc : chGet st.ch id = .own t α inh sz enc xs)
    (hF : ∀ b, b < cx.wE.heap.size → cx.F b := by intro _ h; exact h) : Fresh cx.wE w' (ρ id) t sz enc xs := by
  have hid := blt_lt hid
  have hok := h.mem.ok id hid
  rw [hc] at hok
  have hob : ∀ b, (ρ id).ownBlock = some b → ownBlk (chGet st.ch id) (ρ id) = some b := fun b hb => by rw [hc]; exact hb
  refine ⟨OwnOk.flat hf hok, fun b hb => ?_⟩
  rcases Nat.lt_or_ge b cx.wE.heap.size with hlt | hge
  · exact absurd (hob b hb) ((h.frm b (hF b hlt)).2.2 id hid)
  · exact hge

/-- a call that hands back a new slice: what is around it -/
theorem adv_fresh {st : St} {ρ : Nat → Value} {S : Nat → Prop} {w w' : World} {v : Value} {t : TypeId} {α : Type} [inh : Inhabited α] {sz : Nat} {enc : α → List DV} {xs : List α} {K : St → Nat → Prop} (hm : MemOk st ρ S w) (hb : Below w.heap.size w w') (hf : Fresh w w' v t sz enc xs)
    (h : newCh st (.own t α inh sz enc xs) K) : ∃ st' S', K st' st.ch.length ∧ Adv st st' ρ (upd ρ st.ch.length v) S S' w w' ∧ st.ch.length < st'.ch.length := by
  have hm' := hm.below hb
  let S' : Nat → Prop := fun b => S b ∨ (w.heap.size ≤ b ∧ b < w'.heap.size ∧ v.ownBlock ≠ some b)
  have hm2 : MemOk st ρ S' w' := ⟨fun id hid => ChunkOk.mono (fun b hb => .inl hb) (fun _ _ => rfl) (fun _ _ => rfl) (hm'.ok id hid), hm.cells, hm.sep, fun i b hi hb' => by
    rintro (hS | ⟨h1, _⟩)
    · exact hm.out i b hi hb' hS
    · have := ownBlk_lt (hm.ok i hi) hb'; omega, fun b hb' => by
    rcases hb' with hS | ⟨_, h2, _⟩
    · exact hm'.lt b hS
    · exact h2, hm.ccl⟩
  obtain ⟨n, env, ch, bs, ids⟩ := st
  simp only [newCh, snocK_eq] at h
  cases ids with
  | nil => exact h.elim
  | cons i is =>
    simp only at h
    cases hbq : Nat.beq i ch.length with
    | false => simp [hbq] at h
    | true =>
      simp only [hbq] at h
      have hi := Nat.eq_of_beq_eq_true hbq
      subst hi
      refine ⟨_, S', h, ⟨rfl, rfl, rfl, ChRel.ofExt (ChExt.snoc _ _), fun id hid => upd_ne _ _ (Nat.ne_of_lt hid), ?_, fun _ h => .inl h, fun b hlt _ => hb.block b hlt, fun i b hi e => ?_, fun b hS' => ?_, yks_snoc rfl, hb.size, hb.os, hb.tape, hb.output⟩, by simp [snocL_length]⟩
      rotate_left
      · simp only [snocL_length] at hi
        by_cases hlt : i < ch.length
        · simp only [chGet_snoc_old _ _ _ hlt, upd_ne _ _ (Nat.ne_of_lt hlt)] at e; exact .inr ⟨i, hlt, e⟩
        · have e' : i = ch.length := by omega
          subst e'
          simp only [chGet_snoc_new, upd_same] at e
          exact .inl (hf.new b e)
      · rcases hS' with h1 | ⟨h1, _, _⟩
        · exact .inl h1
        · exact .inr (.inl h1)
      refine MemOk.addCh hm2 rfl rfl ?_ (by simp [cellsIn, svOkL]) (by intro p hp; simp [condsOf] at hp) (fun b e => ?_)
      · exact ChunkOk.mono (bs := []) (c := .own t α inh sz enc xs) (ρ := ρ) (w := w') (fun b hb => .inr hb) (fun _ _ => rfl) (fun _ _ => rfl) hf.own
      · have hge := hf.new b e
        refine ⟨?_, fun i hi h2 => ?_⟩
        · rintro (hS | ⟨_, _, h3⟩)
          · have := hm.lt b hS; omega
          · exact h3 e
        · have := ownBlk_lt (hm.ok i hi) h2; omega

theorem lcall_fresh {P : Program} {st : St} {f : Nat} {args : List SV} {K : St → SV → Prop} {Kp : List PanicEntry → St → Prop} {t : TypeId} {α : Type} [inh : Inhabited α] {sz : Nat} {enc : α → List DV} (xs : List α)
    (hc : ∀ ρ S w, MemOk st ρ S w → Calls P f (denL ρ args).toArray w fun e w' => ∃ v, e = .returned v ∧ Below w.heap.size w w' ∧ Fresh w w' v t sz enc xs)
    (h : newCh st (.own t α inh sz enc xs) (fun st' id => K st' (.sl id))) : LCall P st f args K Kp := by
  intro ρ S w hm
  refine (hc ρ S w hm).mono fun e w' ⟨v, he, hb, hf⟩ => ?_
  obtain ⟨st', S', hK, hadv, hlt⟩ := adv_fresh hm hb hf h
  exact .inl ⟨st', .sl st.ch.length, _, S', by simp only [den, upd_same]; exact he, hadv, by simpa [svOk] using hlt, hK⟩

/-- a call that panics, and leaves all that was there as it was -/
theorem lcall_panic {P : Program} {st : St} {f : Nat} {args : List SV} {K : St → SV → Prop} {Kp : List PanicEntry → St → Prop} (pc : List PanicEntry)
    (hc : ∀ ρ S w, MemOk st ρ S w → Calls P f (denL ρ args).toArray w fun e w' => e = .panicked pc ∧ Below w.heap.size w w') (h : Kp pc st) : LCall P st f args K Kp := by
  intro ρ S w hm
  refine (hc ρ S w hm).mono fun e w' ⟨he, hb⟩ => .inr ⟨pc, st, ρ, S, he, ?_, h⟩
  exact Adv.quiet rfl rfl rfl (ChExt.refl _) (fun _ _ => rfl) (hm.below hb) (fun i h1 h2 => absurd h2 (by omega)) hb

/-- the same as lcall_fresh, a plain value beside it -/
theorem lcall_fresh2 {P : Program} {st : St} {f : Nat} {args : List SV} {K : St → SV → Prop} {Kp : List PanicEntry → St → Prop} {t : TypeId} {α : Type} [inh : Inhabited α] {sz : Nat} {enc : α → List DV} (xs : List α) (x : Value)
    (hc : ∀ ρ S w, MemOk st ρ S w → Calls P f (denL ρ args).toArray w fun e w' => ∃ v, e = .returned (.tuple #[v, x]) ∧ Below w.heap.size w w' ∧ Fresh w w' v t sz enc xs)
    (h : newCh st (.own t α inh sz enc xs) (fun st' id => K st' (.tup [.sl id, .v x]))) : LCall P st f args K Kp := by
  intro ρ S w hm
  refine (hc ρ S w hm).mono fun e w' ⟨v, he, hb, hf⟩ => ?_
  obtain ⟨st', S', hK, hadv, hlt⟩ := adv_fresh hm hb hf h
  exact .inl ⟨st', .tup [.sl st.ch.length, .v x], _, S', by simp only [den, denL, upd_same]; exact he, hadv, by simp only [svOk, svOkL, and_true]; exact hlt, hK⟩


theorem MemOk.rp {st : St} {ρ : Nat → Value} {S : Nat → Prop} {w : World} (hm : MemOk st ρ S w) (id : Nat) {cells : List DV} (hid : Nat.blt id st.ch.length = true) (hc : chGet st.ch id = .rp [] cells) : DRep (· < w.heap.size) w (.ptr cells) (den ρ (.bx id 0)) := by
  have := hm.ok id (blt_lt hid)
  rw [hc] at this
  have := DRep.mono (S' := (· < w.heap.size)) (w' := w) (fun b hb => hm.lt b hb) (fun _ _ => rfl) (this trivial)
  simp only [den]
  generalize hv : ρ id = v at this
  cases this with
  | ptr b o cell hb hcell hrep => exact .ptr b o cell hb hcell hrep

/-- a box of one's own, handed on to be read -/
theorem MemOk.bx {st : St} {ρ : Nat → Value} {S : Nat → Prop} {w : World} (hm : MemOk st ρ S w) (id : Nat) {t : TypeId} {cells : List SV} (hid : Nat.blt id st.ch.length = true) (hc : chGet st.ch id = .bx t cells) (ds : List DV) (hds : toDVs st cells = some ds) : DRep (· < w.heap.size) w (.ptr ds) (den ρ (.bx id 0)) := by
  have hid := blt_lt hid
  have hok := hm.ok id hid
  have hcl := hm.cells id
  rw [hc] at hok hcl
  obtain ⟨b, hv, hg⟩ := hok
  obtain ⟨h4, h5⟩ := toDVs_sound hm cells ds hcl hds
  simp only [den, hv]
  refine .ptr b 0 (fun j => ((denL ρ cells)[j]?).getD undef) (Array.getElem?_eq_some_iff.1 hg).1 (fun j d hd => ?_) (fun j d hd => ?_)
  · obtain ⟨x, h1, _⟩ := h5 j d hd
    rw [Nat.zero_add, cell_of_row w b _ _ t (0, 0) hg, h1]
    simpa using h1
  · obtain ⟨x, h1, h2⟩ := h5 j d hd
    rw [h1]
    exact DRep.mono (fun b hb => hm.lt b hb) (fun _ _ => rfl) h2

theorem i64_id (n : Int) (h1 : -9223372036854775808 ≤ n) (h2 : n ≤ 9223372036854775807) : IntKind.i64.wrap n = n := IntWalk.i64_in n ⟨h1, h2⟩
theorem i64_succ (n : Nat) (h : n < 9223372036854775807) : IntKind.i64.wrap ((n : Int) + 1) = ((n + 1 : Nat) : Int) := by rw [i64_id _ (by omega) (by omega)]; rfl
theorem sv_i64 {a b : Int} (h : a = b) : SV.v (.int .i64 a) = SV.v (.int .i64 b) := by rw [h]


/-! ### a call that writes one box of the caller's -/
structure BoxUpd (w w' : World) (b : Nat) (t : TypeId) (vs : Array Value) : Prop where
  os : w'.os = w.os
  tape : w'.tape = w.tape
  output : w'.output = w.output
  size : w.heap.size ≤ w'.heap.size
  box : w'.heap[b]? = some (.cells vs t (0, 0))
  oth : ∀ k, k < w.heap.size → k ≠ b → w'.heap[k]? = w.heap[k]?

theorem lcall_box {P : Program} {st : St} {f : Nat} {args : List SV} {K : St → SV → Prop} {Kp : List PanicEntry → St → Prop} (id : Nat) {t : TypeId} {cells : List SV} (cells' : List SV) (r : Value) (hid : Nat.blt id st.ch.length = true) (hch : chGet st.ch id = .bx t cells) (hok : idsOkL st.ch cells' = true)
    (hc : ∀ ρ S w b, MemOk st ρ S w → ρ id = .pointer (some ⟨b, 0, none⟩) → w.heap[b]? = some (.cells (denL ρ cells).toArray t (0, 0)) → (∀ k, S k → k < w.heap.size ∧ k ≠ b) →
      Calls P f (denL ρ args).toArray w fun e w' => e = .returned r ∧ BoxUpd w w' b t (denL ρ cells').toArray)
    (h : withCh st id (.bx t cells') (fun st' => K st' (.v r))) : LCall P st f args K Kp := by
  intro ρ S w hm
  have hid := blt_lt hid
  have hokc := hm.ok id hid
  rw [hch] at hokc
  obtain ⟨b, hb, hg⟩ := hokc
  have hob : ownBlk (chGet st.ch id) (ρ id) = some b := by rw [hch, hb]; rfl
  have hnS : ∀ k, S k → k ≠ b := fun k hS e => hm.out id b hid hob (e ▸ hS)
  refine (hc ρ S w b hm hb hg (fun k hS => ⟨hm.lt k hS, hnS k hS⟩)).mono fun e w' ⟨he, hu⟩ => ?_
  obtain ⟨st', hK, hch', hbs, henv, hn⟩ := withCh_sound h
  have hrel : ChRel st.ch (setCh st.ch id (.bx t cells')) := ⟨by rw [setCh_length]; exact Nat.le_refl _, fun i hi n hn => by
    rw [chGet_setCh _ _ _ _ hid] at hn ⊢
    split at hn
    · simp [lenOf] at hn
    · rename_i e; rw [if_neg e]; exact ⟨n, hn, Nat.le_refl _, rfl⟩⟩
  refine .inl ⟨st', .v r, ρ, S, he, ⟨hn, henv, hbs, by rw [hch']; exact hrel, fun _ _ => rfl, ?_, fun _ h => h, fun k hlt hno => hu.oth k hlt (fun e => hno id hid (by rw [hob, e])), fun i k hi e => ?_, fun _ h => .inl h, by rw [hch']; exact yks_set hid rfl, hu.size, hu.os, hu.tape, hu.output⟩, by simp [svOk], hK⟩
  rotate_left
  · rw [hch', setCh_length] at hi
    rw [hch', chGet_setCh _ _ _ _ hid] at e
    split at e
    · rename_i e2; subst e2; rw [hb] at e; exact .inr ⟨i, hi, by rw [hob]; exact e⟩
    · exact .inr ⟨i, hi, e⟩
  refine hm.change hid hch' hbs (fun k hS => hu.oth k (hm.lt k hS) (hnS k hS)) (fun i k hi hne h2 => hu.oth k (ownBlk_lt (hm.ok i hi) h2) (fun e => ?_)) ⟨b, hb, hu.box⟩ (idsOkL_svOk _ hok) hrel ?_ rfl hu.size
  · exact hm.sep i id k hi hid hne h2 (by rw [hob, e])
  · intro b' h2; rw [hob]; rw [hb] at h2; exact h2

/-- at the entry of a function that writes a box handed in: what is read, and the box behind it -/
theorem memRdBx {n : Nat} {env : List Ent} {chs : List Chunk} {ids : List Nat} {ρ : Nat → Value} {S : Nat → Prop} {w : World} {t : TypeId} {cells : List SV} {b : Nat} (hS : ∀ k, S k → k < w.heap.size) (hb : ¬ S b) (h : argsRd S w ρ chs 0)
    (hv : ρ chs.length = .pointer (some ⟨b, 0, none⟩)) (hg : w.heap[b]? = some (.cells (denL ρ cells).toArray t (0, 0))) (hcl : svOkL (snocL chs (.bx t cells)) cells) : MemOk ⟨n, env, snocL chs (.bx t cells), [], ids⟩ ρ S w := by
  have hm := memRd (n := n) (env := env) (ids := ids) hS h
  have hup : upd ρ chs.length (ρ chs.length) = ρ := by
    funext i
    unfold upd
    split
    · rename_i e; rw [e]
    · rfl
  have := MemOk.addCh (st' := ⟨n, env, snocL chs (.bx t cells), [], ids⟩) (c := .bx t cells) (v := ρ chs.length) hm rfl rfl ⟨b, hv, by rw [hup]; exact hg⟩ hcl (by intro p hp; simp [condsOf] at hp) (fun b' hb' => by
    rw [hv] at hb'
    simp only [ownBlk, Option.some.injEq] at hb'
    subst hb'
    refine ⟨hb, fun i hi => ?_⟩
    rcases argsRd_get chs 0 h i hi with ⟨α, inh, sz, enc, xs, h1, _⟩ | ⟨cs, h1, _⟩
    · simp only at h1 ⊢; rw [h1]; simp [ownBlk]
    · simp only at h1 ⊢; rw [h1]; simp [ownBlk])
  rw [hup] at this
  exact this

/-- behind the walk: the box's cells -/
theorem Inv.boxUpd {st : St} {w' : World} {cx : Ctx} {b : Nat} {ρ : Nat → Value} {S : Nat → Prop} (h : Inv cx st ρ S w') (id : Nat) {t : TypeId} {cells : List SV} (hid : Nat.blt id cx.k = true) (hv : cx.ρ0 id = .pointer (some ⟨b, 0, none⟩)) (hc : chGet st.ch id = .bx t cells)
    (hF : ∀ j, j < cx.wE.heap.size → j ≠ b → cx.F j := by intro _ h1 h2; exact ⟨h1, h2⟩) : BoxUpd cx.wE w' b t (denL ρ cells).toArray := by
  have hid := blt_lt hid
  have hok := h.mem.ok id (Nat.lt_of_lt_of_le hid h.kle)
  rw [hc] at hok
  obtain ⟨b', hb', hg⟩ := hok
  have := h.anch id hid
  rw [this, hv] at hb'
  simp at hb'
  subst hb'
  exact ⟨h.os, h.tape, h.output, h.size, hg, fun j hj hne => h.keep j (hF j hj hne)⟩

theorem Rd.sub {w : World} {v : Value} {α : Type} [inh : Inhabited α] {sz : Nat} {enc : α → List DV} {xs : List α} {S S' : Nat → Prop} (h : DRep S w (.sl α inh sz enc xs) v) (hs : ∀ b, S b → S' b) : DRep S' w (.sl α inh sz enc xs) v :=
  DRep.mono hs (fun _ _ => rfl) h

end Go.Eng

/-! part Snd17 -/
namespace Go.Eng
open Go Go.RowKit

/-- a slice written out in the text, handed back -/
theorem Inv.freshRaw {st : St} {w' : World} {cx : Ctx} {ρ : Nat → Value} {S : Nat → Prop} (h : Inv cx st ρ S w') (id : Nat) {t n sz : Nat} {cells : List SV} (hid : Nat.blt id st.ch.length = true) (hc : chGet st.ch id = .raw t n sz cells)
    {α : Type} [inh : Inhabited α] {enc : α → List DV} (f : α → List Value) (hf : ∀ x, enc x = (f x).map .v) (xs : List α) (hcells : cells = (xs.flatMap f).map .v) (hn : xs.length = n) (hl : ∀ y ∈ xs, (f y).length = sz) (hm : n ≤ maxLen) (h1 : ∀ y ∈ xs, (f y).all Value.oneCell' = true)
    (hF : ∀ b, b < cx.wE.heap.size → cx.F b := by intro _ h; exact h) : Fresh cx.wE w' (ρ id) t sz enc xs := by
  have hid := blt_lt hid
  have hok := h.mem.ok id hid
  rw [hc] at hok
  obtain ⟨b, hv, hg⟩ := hok
  have hob : ownBlk (chGet st.ch id) (ρ id) = some b := by rw [hc, hv]; rfl
  rw [hcells, denL_v] at hg
  have hlen := flatMap_len f sz xs hl
  subst hn
  rw [hv]
  refine ⟨⟨xs.flatMap f, ⟨hlen, .inr ⟨b, xs.length, _, rfl, Nat.zero_le _, hg, Nat.le_refl _, hm, by simpa using hlen, by rw [← hlen]; exact List.take_of_length_le (by simp)⟩⟩, fun i j d hi hd => ?_⟩, fun b' hb' => ?_⟩
  · rw [hf, List.getElem?_map] at hd
    cases hy : (f (nth xs i))[j]? with
    | none => simp [hy] at hd
    | some y =>
      simp only [hy, Option.map_some, Option.some.injEq] at hd
      subst hd
      have hj : j < sz := by
        have := hl (nth xs i) (by rw [nth_eq xs i hi]; exact List.getElem_mem _)
        have h6 := (List.getElem?_eq_some_iff.1 hy).1
        omega
      exact ⟨y, by rw [flatMap_get f sz xs hl i j hi hj, hy], hj, .v _ (List.all_eq_true.1 (h1 (nth xs i) (by rw [nth_eq xs i hi]; exact List.getElem_mem _)) y (List.mem_of_getElem? hy))⟩
  · have : b' = b := by simpa [Value.ownBlock, eq_comm] using hb'
    subst this
    rcases Nat.lt_or_ge b' cx.wE.heap.size with hlt | hge
    · exact absurd hob ((h.frm b' (hF b' hlt)).2.2 id hid)
    · exact hge
end Go.Eng

/-! part Snd18 -/
namespace Go.Eng
open Go.RowKit
open Classical

/-! ### arguments: what a reading says, as data of the engine's -/
def Opens (P : Program) (t : TypeId) (sz : Nat) {α : Type} (enc : α → List DV) (ok : α → Prop) : Prop :=
  ∀ {H : Type} (en : TypeId × Value → H) (w : World) (base : Nat) (spare : Nat → Bool) (held : Bool) (fuel : Nat) (cs : List Value) (x : DataW H × List MemPlace), DataW.trod en P w base spare held fuel t cs = some x →
    cs.length = sz ∧ ∃ a : α, ok a ∧ (enc a).length = sz ∧ ∀ (j : Nat) (d : DV), (enc a)[j]? = some d → ∃ v : Value, cs[j]? = some v ∧ DRep (· < w.heap.size) w d v

theorem opens_one {P : Program} {t : TypeId} {α : Type} {f : α → DV} {ok : α → Prop}
    (h : ∀ {H : Type} (en : TypeId × Value → H) (w : World) (base : Nat) (spare : Nat → Bool) (held : Bool) (fuel : Nat) (cs : List Value) (x : DataW H × List MemPlace), DataW.trod en P w base spare held fuel t cs = some x →
      ∃ v a, cs = [v] ∧ ok a ∧ DRep (· < w.heap.size) w (f a) v) : Opens P t 1 (fun a => [f a]) ok := by
  intro H en w base spare held fuel cs x hx
  obtain ⟨v, a, rfl, ha, hd⟩ := h en w base spare held fuel cs x hx
  refine ⟨rfl, a, ha, rfl, fun j d hj => ?_⟩
  cases j with
  | zero => simp only [List.getElem?_cons_zero, Option.some.injEq] at hj; subst hj; exact ⟨v, rfl, hd⟩
  | succ j => simp at hj

theorem opens_int {P : Program} {t : TypeId} {k : IntKind} (ht : P.underlying t = some (.int k)) : Opens P t 1 (fun n : Int => [.v (.int k n)]) (fun n => (Lit.int k n).wf = true) :=
  opens_one fun en w base spare held fuel cs x hx => by
    obtain ⟨n, rfl, _, hw⟩ := DataW.trod_int ht hx
    exact ⟨_, n, rfl, hw, .v _ rfl⟩
theorem opens_bool {P : Program} {t : TypeId} (ht : P.underlying t = some .bool) : Opens P t 1 (fun b : Bool => [.v (.bool b)]) (fun _ => True) :=
  opens_one fun en w base spare held fuel cs x hx => by
    obtain ⟨n, rfl, _⟩ := DataW.trod_bool ht hx
    exact ⟨_, n, rfl, trivial, .v _ rfl⟩
theorem opens_string {P : Program} {t : TypeId} (ht : P.underlying t = some .string) : Opens P t 1 (fun s : ByteArray => [.v (.string s)]) (fun s => s.size ≤ maxLen) :=
  opens_one fun en w base spare held fuel cs x hx => by
    obtain ⟨s, rfl, _, hw⟩ := DataW.trod_string ht hx
    exact ⟨_, s, rfl, hw, .v _ rfl⟩

theorem add_blk (a : Addr) (n : Nat) : (a.add n).block = a.block := by unfold Addr.add; split <;> rfl
theorem add_none (b o n : Nat) : Addr.add ⟨b, o, none⟩ n = ⟨b, o + n, none⟩ := by
  unfold Addr.add; split
  · rename_i h; subst h; rfl
  · rfl
theorem cell_lt {w : World} {a : Addr} {v : Value} (h : w.cell? a = some v) : a.block < w.heap.size := by
  rcases Nat.lt_or_ge a.block w.heap.size with h1 | h1
  · exact h1
  · unfold World.cell? at h
    rw [Array.getElem?_eq_none h1] at h
    simp at h

theorem opens_slice {P : Program} {t e : TypeId} {sz : Nat} {α : Type} [inh : Inhabited α] {enc : α → List DV} {ok : α → Prop} (ht : P.underlying t = some (.slice e)) (hc : P.cellsOf e = sz) (hsz : 0 < sz) (he : Opens P e sz enc ok) :
    Opens P t 1 (fun xs : List α => [.sl α inh sz enc xs]) (fun xs => xs.length ≤ maxLen ∧ ∀ x ∈ xs, ok x) :=
  opens_one fun en w base spare held fuel cs x hx => by
    rcases Deep.open_slice ht hx with ⟨rfl, _⟩ | ⟨a, len, cap, m, n, D, Pl, rfl, hb, hl, hm, hmm, _, hi⟩
    · exact ⟨_, [], rfl, ⟨Nat.zero_le _, fun x hx => by simp at hx⟩, .sl (xs := ([] : List α)) none 0 0 0 (fun _ _ => undef) (Nat.le_refl _) (fun h => absurd rfl h) (fun i j d hi => by simp at hi) (fun i j d hi => by simp at hi)⟩
    · have hlm : len ≤ m := by rw [hmm]; split <;> omega
      rw [hc] at hi
      have each : ∀ i, i < len → ∃ y : α × List Value, ok y.1 ∧ (enc y.1).length = sz ∧ w.cells? base (a.add (i * sz)) sz = some y.2 ∧ ∀ (j : Nat) (d : DV), (enc y.1)[j]? = some d → ∃ v : Value, y.2[j]? = some v ∧ DRep (· < w.heap.size) w d v := by
        intro i hi'
        obtain ⟨cs', h1, h2⟩ := hi i (by omega)
        obtain ⟨_, y, hy, hyl, hyd⟩ := he en w base spare held n cs' _ h2
        exact ⟨(y, cs'), hy, hyl, h1, hyd⟩
      obtain ⟨f, hf⟩ := Deep.choose_lt (α := α × List Value) each
      obtain ⟨b, o, spot⟩ := a
      let xs : List α := (List.range len).map fun i => (f i).1
      have hxl : xs.length = len := by simp [xs]
      have hxn : ∀ i, i < len → nth xs i = (f i).1 := by
        intro i hi'
        rw [nth_eq xs i (by omega)]
        simp [xs]
      have hsp : 0 < len → spot = none ∧ b < w.heap.size := by
        intro h0
        obtain ⟨_, hcl, hat⟩ := World.cells?_some (hf 0 h0).2.2.1
        have h1 := hat 0 hsz
        rw [List.getElem?_eq_getElem (by omega)] at h1
        have h2 := World.cell?_spot h1
        refine ⟨by simpa [Addr.add] using h2, ?_⟩
        rcases Nat.lt_or_ge b w.heap.size with h | h
        · exact h
        · exfalso
          have h3 := cell_lt h1
          rw [add_blk, add_blk] at h3
          exact absurd h3 (by show ¬ b < _; omega)
      have hcell : ∀ i j d, i < len → (enc (nth xs i))[j]? = some d → ∃ v, (f i).2[j]? = some v ∧ w.cell? ⟨b, o + i * sz + j, none⟩ = some v ∧ DRep (· < w.heap.size) w d v := by
        intro i j d hi' hd
        rw [hxn i hi'] at hd
        obtain ⟨_, hel, hc1, hrep⟩ := hf i hi'
        obtain ⟨v, hv, hr⟩ := hrep j d hd
        obtain ⟨_, hcl, hat⟩ := World.cells?_some hc1
        have hj : j < sz := by have := (List.getElem?_eq_some_iff.1 hd).1; omega
        have h1 := hat j hj
        rw [hv] at h1
        obtain ⟨hs, _⟩ := hsp (by omega)
        subst hs
        rw [add_none, add_none] at h1
        exact ⟨v, hv, h1, hr⟩
      refine ⟨_, xs, rfl, ⟨by omega, fun x hx => ?_⟩, ?_⟩
      · simp only [xs, List.mem_map, List.mem_range] at hx
        obtain ⟨i, hi', rfl⟩ := hx
        exact (hf i hi').1
      · rw [← hxl]
        refine .sl (some ⟨b, o, spot⟩) cap b o (fun i j => ((f i).2[j]?).getD undef) (by omega) (fun hne => ?_) (fun i j d hi' hd => ?_) (fun i j d hi' hd => ?_)
        · have : 0 < len := by rw [← hxl]; exact List.length_pos_iff.2 hne
          obtain ⟨h1, h2⟩ := hsp this
          subst h1
          exact ⟨rfl, h2⟩
        · obtain ⟨v, hv, h1, _⟩ := hcell i j d (by omega) hd
          simp only [hv, Option.getD_some]; exact h1
        · obtain ⟨v, hv, _, h2⟩ := hcell i j d (by omega) hd
          simp only [hv, Option.getD_some]; exact h2

theorem Opens.map {P : Program} {t : TypeId} {sz : Nat} {α β : Type} {enc : α → List DV} {ok : α → Prop} (h : Opens P t sz enc ok) (g : α → β) {enc' : β → List DV} {ok' : β → Prop} (hg : ∀ a, enc' (g a) = enc a) (hok : ∀ a, ok a → ok' (g a)) : Opens P t sz enc' ok' := by
  intro H en w base spare held fuel cs x hx
  obtain ⟨hl, a, ha, hla, hd⟩ := h en w base spare held fuel cs x hx
  exact ⟨hl, g a, hok a ha, by rw [hg]; exact hla, by rw [hg]; exact hd⟩

def OpensF (P : Program) (fl : List Field) (off sz : Nat) {α : Type} (enc : α → List DV) (ok : α → Prop) : Prop :=
  ∀ {H : Type} (en : TypeId × Value → H) (w : World) (base : Nat) (spare : Nat → Bool) (held : Bool) (fuel : Nat) (cs : List Value), (∀ f ∈ fl, ∃ y : DataW H × List MemPlace, DataW.trod en P w base spare held fuel f.type ((cs.drop f.offset).take (P.cellsOf f.type)) = some y) →
    ∃ a : α, ok a ∧ (enc a).length = sz ∧ ∀ (j : Nat) (d : DV), (enc a)[j]? = some d → ∃ v : Value, cs[off + j]? = some v ∧ DRep (· < w.heap.size) w d v

theorem opensF_nil {P : Program} {off : Nat} : OpensF P [] off 0 (fun _ : Unit => []) (fun _ => True) := by
  intro H en w base spare held fuel cs _
  exact ⟨(), trivial, rfl, fun j d h => by simp at h⟩

theorem opensF_cons {P : Program} {f : Field} {fl : List Field} {off sz1 sz2 : Nat} {α β : Type} {enc1 : α → List DV} {enc2 : β → List DV} {ok1 : α → Prop} {ok2 : β → Prop} (ho : f.offset = off) (hc : P.cellsOf f.type = sz1) (h1 : Opens P f.type sz1 enc1 ok1) (h2 : OpensF P fl (off + sz1) sz2 enc2 ok2) :
    OpensF P (f :: fl) off (sz1 + sz2) (fun x : α × β => enc1 x.1 ++ enc2 x.2) (fun x => ok1 x.1 ∧ ok2 x.2) := by
  intro H en w base spare held fuel cs h
  obtain ⟨y, hy⟩ := h f (by simp)
  obtain ⟨hl, a, ha, hla, hd⟩ := h1 en w base spare held fuel _ y hy
  obtain ⟨b, hb, hlb, hdb⟩ := h2 en w base spare held fuel cs (fun g hg => h g (by simp [hg]))
  refine ⟨(a, b), ⟨ha, hb⟩, by rw [List.length_append, hla, hlb], fun j d hj => ?_⟩
  rcases Nat.lt_or_ge j sz1 with hj1 | hj1
  · have hla' : (enc1 (a, b).1).length = sz1 := hla
    rw [List.getElem?_append_left (by omega)] at hj
    obtain ⟨v, hv, hr⟩ := hd j d hj
    refine ⟨v, ?_, hr⟩
    rw [hc, ho, List.getElem?_take_of_lt hj1, List.getElem?_drop] at hv
    exact hv
  · have hla' : (enc1 (a, b).1).length = sz1 := hla
    rw [List.getElem?_append_right (by omega), hla'] at hj
    obtain ⟨v, hv, hr⟩ := hdb (j - sz1) d hj
    exact ⟨v, by rw [← hv]; congr 1; omega, hr⟩

theorem opens_struct {P : Program} {t : TypeId} {fs : Array Field} {sz : Nat} {α : Type} {enc : α → List DV} {ok : α → Prop} (ht : P.underlying t = some (.struct fs)) (hc : P.cellsOf t = sz) (h : OpensF P fs.toList 0 sz enc ok) : Opens P t sz enc ok := by
  intro H en w base spare held fuel cs x hx
  obtain ⟨xs, n, _, _, hl, hxl, hf⟩ := DataW.trod_struct ht hx
  refine ⟨by rw [hl, hc], ?_⟩
  obtain ⟨a, ha, hla, hd⟩ := h en w base spare held n cs (fun f hf' => by
    obtain ⟨i, hi⟩ := List.getElem?_of_mem hf'
    have hi' : fs[i]? = some f := by simpa using hi
    rw [hf i f hi']
    have : i < xs.length := by rw [hxl]; exact (Array.getElem?_eq_some_iff.1 hi').1
    exact ⟨xs[i], List.getElem?_eq_getElem this⟩)
  exact ⟨a, ha, hla, fun j d hj => by have := hd j d hj; simpa using this⟩

/-- an argument that is a slice -/
theorem Opens.rd {P : Program} {t : TypeId} {sz : Nat} {α : Type} [inh : Inhabited α] {enc : α → List DV} {ok : List α → Prop} (h : Opens P t 1 (fun xs : List α => [.sl α inh sz enc xs]) ok)
    {H : Type} {en : TypeId × Value → H} {w : World} {base : Nat} {spare : Nat → Bool} {held : Bool} {ad : Option Addr} {len cap : Nat} {d : DataW H} {p : List MemPlace} (ht : DataW.Trod en P w base spare held t (.slice ad len cap) d p) :
    ∃ xs, ok xs ∧ Rd w (.slice ad len cap) sz enc xs := by
  obtain ⟨fuel, hf⟩ := ht
  obtain ⟨_, xs, hok, _, hd⟩ := h en w base spare held fuel _ _ hf
  obtain ⟨v, hv, hr⟩ := hd 0 _ rfl
  simp only [Value.cells, List.getElem?_cons_zero, Option.some.injEq] at hv
  subst hv
  exact ⟨xs, hok, hr⟩

/-- an argument that is a struct of plain cells -/
theorem Opens.agg {P : Program} {t : TypeId} {sz : Nat} {α : Type} {enc : α → List DV} {ok : α → Prop} (h : Opens P t sz enc ok) (f : α → List Value) (hf : ∀ a, enc a = (f a).map .v)
    {H : Type} {en : TypeId × Value → H} {w : World} {base : Nat} {spare : Nat → Bool} {held : Bool} {cs : Array Value} {d : DataW H} {p : List MemPlace} (ht : DataW.Trod en P w base spare held t (.agg cs) d p) :
    ∃ a, ok a ∧ cs = (f a).toArray := by
  obtain ⟨fuel, hx⟩ := ht
  obtain ⟨hl, a, hok, hla, hd⟩ := h en w base spare held fuel _ _ hx
  refine ⟨a, hok, ?_⟩
  have hcs : cs.toList = f a := by
    apply List.ext_getElem?
    intro j
    have hl2 : (f a).length = sz := by rw [← hla, hf, List.length_map]
    simp only [Value.cells] at hl hd
    rcases Nat.lt_or_ge j sz with hj | hj
    · have h1 : (f a)[j]? = some ((f a)[j]'(by omega)) := List.getElem?_eq_getElem (by omega)
      obtain ⟨v, hv, hr⟩ := hd j (.v ((f a)[j]'(by omega))) (by rw [hf, List.getElem?_map, h1]; rfl)
      rw [hv, h1]
      cases hr with
      | v _ _ => rfl
    · rw [List.getElem?_eq_none (by omega), List.getElem?_eq_none (by omega)]
  rw [← hcs]
end Go.Eng

/-! part Snd19 -/
namespace Go.Eng
open Go.RowKit
open Classical

/-! ### calls in a region that draws: what they hand back -/
theorem mcall_val {P : Program} {st : St} {f : Nat} {args : List SV} {K : St → SV → Prop} {Kp : List PanicEntry → St → Prop} (r : Value)
    (hc : ∀ ρ S w, MemOk st ρ S w → Calls P f (denL ρ args).toArray w fun e w' => e = .returned r ∧ Below w.heap.size w w') (h : K st (.v r)) : MCall P st f args K Kp := by
  intro ρ S w hm
  refine (hc ρ S w hm).mono fun e w' ⟨he, hb⟩ => ?_
  refine .inl ?_
  exact ⟨st, .v r, ρ, S, he, Adv.quiet rfl rfl rfl (ChExt.refl _) (fun _ _ => rfl) (hm.below hb) (fun i h1 h2 => by omega) hb, by simp [svOk], hb, h⟩

theorem mcall_fresh {P : Program} {st : St} {f : Nat} {args : List SV} {K : St → SV → Prop} {Kp : List PanicEntry → St → Prop} {t : TypeId} {α : Type} [inh : Inhabited α] {sz : Nat} {enc : α → List DV} (xs : List α)
    (hc : ∀ ρ S w, MemOk st ρ S w → Calls P f (denL ρ args).toArray w fun e w' => ∃ v, e = .returned v ∧ Below w.heap.size w w' ∧ Fresh w w' v t sz enc xs)
    (h : newCh st (.own t α inh sz enc xs) (fun st' id => K st' (.sl id))) : MCall P st f args K Kp := by
  intro ρ S w hm
  refine (hc ρ S w hm).mono fun e w' ⟨v, he, hb, hf⟩ => ?_
  obtain ⟨st', S', hK, hadv, hlt⟩ := adv_fresh hm hb hf h
  refine .inl ?_
  exact ⟨st', .sl st.ch.length, _, S', by simp only [den, upd_same]; exact he, hadv, by simpa [svOk] using hlt, hb, hK⟩

theorem mcall_fresh2 {P : Program} {st : St} {f : Nat} {args : List SV} {K : St → SV → Prop} {Kp : List PanicEntry → St → Prop} {t : TypeId} {α : Type} [inh : Inhabited α] {sz : Nat} {enc : α → List DV} (xs : List α) (x : Value)
    (hc : ∀ ρ S w, MemOk st ρ S w → Calls P f (denL ρ args).toArray w fun e w' => ∃ v, e = .returned (.tuple #[v, x]) ∧ Below w.heap.size w w' ∧ Fresh w w' v t sz enc xs)
    (h : newCh st (.own t α inh sz enc xs) (fun st' id => K st' (.tup [.sl id, .v x]))) : MCall P st f args K Kp := by
  intro ρ S w hm
  refine (hc ρ S w hm).mono fun e w' ⟨v, he, hb, hf⟩ => ?_
  obtain ⟨st', S', hK, hadv, hlt⟩ := adv_fresh hm hb hf h
  refine .inl ?_
  exact ⟨st', .tup [.sl st.ch.length, .v x], _, S', by simp only [den, denL, upd_same]; exact he, hadv, by simp only [svOk, svOkL, and_true]; exact hlt, hb, hK⟩

theorem mcall_panic {P : Program} {st : St} {f : Nat} {args : List SV} {K : St → SV → Prop} {Kp : List PanicEntry → St → Prop} (pc : List PanicEntry)
    (hc : ∀ ρ S w, MemOk st ρ S w → Calls P f (denL ρ args).toArray w fun e w' => e = .panicked pc ∧ Below w.heap.size w w') (h : Kp pc st) : MCall P st f args K Kp := by
  intro ρ S w hm
  refine (hc ρ S w hm).mono fun e w' ⟨he, hb⟩ => .inr ?_
  exact ⟨pc, st, ρ, S, he, Adv.quiet rfl rfl rfl (ChExt.refl _) (fun _ _ => rfl) (hm.below hb) (fun i h1 h2 => by omega) hb, hb, h⟩
end Go.Eng

/-! part Snd20 -/
namespace Go.Eng
open Go.RowKit
open Classical

section
variable {P : Program} {tt : TT} {st : St} {L : List (Nat × Bool)} {K : St → SV → Prop} {ρ : Nat → Value} {S : Nat → Prop} {w : World}

/-! ### what operations compute, by hand -/
theorem pure_index (htt : TTok P tt) {t : Nat} {x i : Operand} {n e : Nat} {l : List SV} {k : IntKind} {z : Int} {r : Value} (hd : (ttGet tt t).d = .arr n e) (hk : knownD (ttGet tt e).d = true) (ha : isAggD (ttGet tt e).d = false) (hs : (ttGet tt e).size = 1)
    (hx : getV st L x = some (.agg l)) (hi : getV st L i = some (.v (.int k z))) (h0 : 0 ≤ z) (h1 : z < n) (hl : l[z.toNat]? = some (.v r)) : PureQ P st L (.index t x i) r := by
  intro ρ S w ev o hm hL he ho
  have hdesc := tyOk_desc (htt t) (by rw [hd]; simp)
  rw [hd] at hdesc
  have e1 := he x _ hx
  have e2 := he i _ hi
  simp only [den] at e1 e2
  have hno : (ttGet tt e).d ≠ .other := by intro e; rw [e] at hk; simp [knownD] at hk
  have hsz := sizeOf_run (P := P) (htt e) hno w
  have hpart := part_run (P := P) (ρ := ρ) (htt e) hk l z.toNat (.v r) (.inl ⟨ha, by
    rw [dropL_eq, dropL_eq]
    have hlt := (List.getElem?_eq_some_iff.1 hl).1
    rw [List.drop_eq_getElem_cons hlt, (List.getElem?_eq_some_iff.1 hl).2]⟩) w
  simp only [den] at hpart
  rw [hs] at hsz
  have hu : P.underlying t = some (.array n e) := hdesc
  simp [execOp, ho, e1, e2, Instr.index, asIntOf, run_underlying hu, h0, h1, hsz, hpart]

theorem pure_strIndex (htt : TTok P tt) {t : Nat} {x i : Operand} {s : ByteArray} {k : IntKind} {z : Int} {b : UInt8} (hd : (ttGet tt t).d = .str) (hx : getV st L x = some (.v (.string s))) (hi : getV st L i = some (.v (.int k z))) (h0 : 0 ≤ z) (h1 : z < s.size)
    (hb : s[z.toNat]? = some b) : PureQ P st L (.index t x i) (.int .u8 b.toNat) := by
  intro ρ S w ev o hm hL he ho
  have hdesc := tyOk_desc (htt t) (by rw [hd]; simp)
  rw [hd] at hdesc
  have e1 := he x _ hx
  have e2 := he i _ hi
  simp only [den] at e1 e2
  have hu : P.underlying t = some .string := hdesc
  have := run_index_string (P := P) w t s k z hu
  rw [dif_pos ⟨h0, h1⟩] at this
  have hbb : (s[z.toNat]'(by omega)) = b := by
    rw [ByteArray.getElem?_lt' s _ (by omega)] at hb; exact Option.some.inj hb
  rw [hbb] at this
  simp [execOp, ho, e1, e2, this]

/-- the bytes of a slice, as a string -/
theorem pure_bytes (htt : TTok P tt) {t dt e : Nat} {x : Operand} {id : Nat} (ns : List Int) (hd : (ttGet tt t).d = .sl e) (he8 : (ttGet tt e).d = .int .u8) (hdt : (ttGet tt dt).d = .str) (hx : getV st L x = some (.sl id)) (hid : Nat.blt id st.ch.length = true)
    (hr : rowsAs st (chGet st.ch id) Int inferInstance 1 (fun n => [.v (.int .u8 n)]) ns) : PureQ P st L (.convert t dt x) (.string (strOfNums ns)) := by
  intro ρ S w ev o hm hL he ho
  have hu := tyOk_desc (htt t) (by rw [hd]; simp)
  rw [hd] at hu
  have hu8 := tyOk_desc (htt e) (by rw [he8]; simp)
  rw [he8] at hu8
  have hud := tyOk_desc (htt dt) (by rw [hdt]; simp)
  rw [hdt] at hud
  have e1 := he x _ hx
  simp only [den] at e1
  obtain ⟨ad, c, news, hn⟩ := rows_sound (by omega) hm (blt_lt hid) hr
  have hcell : ∀ a, ad = some a → ∀ (j : Nat) v, (ns.map (Value.int .u8))[j]? = some v → w.cell? (a.add j) = some v := by
    intro a ha j v hj
    rw [List.getElem?_map] at hj
    cases hy : ns[j]? with
    | none => simp [hy] at hj
    | some y =>
      simp only [hy, Option.map_some, Option.some.injEq] at hj
      subst hj
      have hlt := (List.getElem?_eq_some_iff.1 hy).1
      have hny : nth ns j = y := by rw [nth_eq ns j hlt]; exact (List.getElem?_eq_some_iff.1 hy).2
      obtain ⟨x, h1, _, h2⟩ := hn.rep j 0 (.v (.int .u8 y)) hlt (by rw [hny]; rfl)
      have : x = .int .u8 y := by cases h2; rfl
      subst this
      exact hn.cells a ha j _ (by simpa using h1)
  have hrun : (convert t dt (ρ id)).run P w = .ok (.string (strOfNums ns)) w := by
    rw [hn.val]
    cases had : ad with
    | none =>
      have : ns = [] := by
        cases hns : ns with
        | nil => rfl
        | cons a r => obtain ⟨a', ha'⟩ := hn.nonnil (by rw [hns]; simp); rw [had] at ha'; cases ha'
      subst this
      exact run_convert_bytes_nil w t e hu hu8 _ _ dt hud
    | some a =>
      have hl : (loadCells a ns.length).run P w = .ok (ns.map (Value.int .u8)).toArray w := by
        have := run_loadCells_list (P := P) w a (ns.map (Value.int .u8)) (hcell a had)
        simpa using this
      rw [run_convert_bytes_string w t dt e _ ns.length c hu hu8 hud, run_bytesToString w _ ns.length c ns hl, foldl_push_bytes]
      simp [strOfNums, ByteArray.empty, ByteArray.emptyWithCapacity]
      rfl
  simp [execOp, ho, e1, hrun]

/-- two structs compared -/
theorem pure_aggEq {op : BinOp} (hop : op = .eql ∨ op = .neq) {t : Nat} {x y : Operand} {g : Nat} {l1 l2 : List Value} {s1 s2 : SV} (b : Bool) (hx : getV st L x = some s1) (hy : getV st L y = some s2) (h1 : ∀ ρ, den ρ s1 = .agg l1.toArray) (h2 : ∀ ρ, den ρ s2 = .agg l2.toArray)
    (hm : P.eqGuardType P.depth t = false) (hr : ∀ w, (Op.equalIn 10000 t (.agg l1.toArray) (.agg l2.toArray)).run P w = .ok b w) : PureQ P st L (.binOp op t x y g) (.bool (if op = .eql then b else !b)) := by
  intro ρ S w ev o _ hL he ho
  have e1 := he x _ hx
  have e2 := he y _ hy
  rw [h1] at e1
  rw [h2] at e2
  have hg := run_eqGuard_agg (P := P) w op t x y l1.toArray l2.toArray hm
  rcases hop with rfl | rfl
  · simp [execOp, ho, e1, e2, hg, run_eql_struct, hr, Result.andThen]
  · simp [execOp, ho, e1, e2, hg, run_neq_struct, hr, Result.andThen]

/-- an interface value held against nil -/
theorem pure_neqNil {t : Nat} {x : Operand} {g : Nat} {z : Value} (hu : P.underlying t = some (.interface (P.methodsAt t))) (hx : getV st L x = some (.v z)) (b : Bool) (h : (z = .nilIface ∧ b = false) ∨ ((∃ u v, z = .iface u v) ∧ b = true)) :
    PureQ P st L (.binOp .neq t x (.const .nilIface) g) (.bool b) := by
  intro ρ S w ev o _ hL he ho
  have e1 := he x _ hx
  have e2 := he (.const .nilIface) (.v .nilIface) rfl
  simp only [den] at e1 e2
  rcases h with ⟨rfl, rfl⟩ | ⟨⟨u, v, rfl⟩, rfl⟩
  · simp only [execOp, ho, e1, e2, eqGuard_nil_constR]
    simp [run_neq_nil_nil w t hu]
  · simp only [execOp, ho, e1, e2, eqGuard_at_iface]
    simp [run_neq_held_nil w t u v hu]
theorem pure_eqlNil {t : Nat} {x : Operand} {g : Nat} {z : Value} (hu : P.underlying t = some (.interface (P.methodsAt t))) (hx : getV st L x = some (.v z)) (b : Bool) (h : (z = .nilIface ∧ b = true) ∨ ((∃ u v, z = .iface u v) ∧ b = false)) :
    PureQ P st L (.binOp .eql t x (.const .nilIface) g) (.bool b) := by
  intro ρ S w ev o _ hL he ho
  have e1 := he x _ hx
  have e2 := he (.const .nilIface) (.v .nilIface) rfl
  simp only [den] at e1 e2
  rcases h with ⟨rfl, rfl⟩ | ⟨⟨u, v, rfl⟩, rfl⟩
  · simp only [execOp, ho, e1, e2, eqGuard_nil_constR]
    simp [run_eql_nil_nil w t hu]
  · simp only [execOp, ho, e1, e2, eqGuard_at_iface]
    simp [run_eql_held_nil w t u v hu]
def isPtrC : Chunk → Bool
  | .bx _ _ => true
  | .rp [] _ => true
  | _ => false
/-- an address held against nil -/
theorem pure_ptrNil {op : BinOp} (hop : op = .eql ∨ op = .neq) {t : Nat} {x : Operand} {g id off : Nat} (hu : P.underlying t = some (.pointer (P.pointee t))) (hx : getV st L x = some (.bx id off)) (hid : Nat.blt id st.ch.length = true) (hc : isPtrC (chGet st.ch id) = true) :
    PureQ P st L (.binOp op t x (.const (.pointer none)) g) (.bool (if op = .eql then false else true)) := by
  intro ρ S w ev o hm hL he ho
  have e1 := he x _ hx
  have e2 := he (.const (.pointer none)) (.v (.pointer none)) rfl
  have hok := hm.ok id (blt_lt hid)
  have key : ∃ a, ρ id = .pointer (some a) := by
    revert hok hc
    cases chGet st.ch id with
    | bx t' cells => intro _ hok; obtain ⟨b, hv, _⟩ := hok; exact ⟨_, hv⟩
    | rp L' cells =>
      cases L' with
      | nil =>
        intro _ hok
        have := hok trivial
        generalize ρ id = v at this
        cases this with
        | ptr b o cell _ _ _ => exact ⟨_, rfl⟩
      | cons p q => intro h; simp [isPtrC] at h
    | _ => intro h; simp [isPtrC] at h
  obtain ⟨a, ha⟩ := key
  simp only [den, ha] at e1 e2
  rcases hop with rfl | rfl
  · simp [execOp, ho, e1, e2, eqGuard, run_eql_pointer_nil w t _ hu]
  · simp [execOp, ho, e1, e2, eqGuard, run_neq_pointer_nil w t _ hu]

/-- what an interface holds, of just that type -/
theorem pure_assert {x : Operand} {xT ty : Nat} {v : Value} (hx : getV st L x = some (.v (.iface ty v))) {d : TypeDesc} (hu : P.underlying ty = some d) (hd : ∀ ms, d ≠ .interface ms) : PureQ P st L (.typeAssert x xT ty false) v := by
  intro ρ S w ev o _ hL he ho
  have e1 := he x _ hx
  simp only [den] at e1
  have : (Instr.typeAssert (.iface ty v) xT ty false).run P w = .ok v w := by
    simp only [Instr.typeAssert, Sem.run_bind, run_underlying hu, Result.andThen_ok]
    cases d <;> first | (simp; done) | exact absurd rfl (hd _)
  simp [execOp, ho, e1, this]

/-! ### calls that hand back what is only read -/
theorem adv_rdS {w' : World} {v : Value} {c : Chunk} {K : St → Nat → Prop} (hm : MemOk st ρ S w) (hb : Below w.heap.size w w')
    (hc : ∀ bs ρ', ChunkOk bs (fun b => S b ∨ (w.heap.size ≤ b ∧ b < w'.heap.size)) w' ρ' c v) (hown : ∀ v, ownBlk c v = none) (hce : cellsIn c = []) (hcd : condsOf c = []) (hny : noY c = true)
    (h : newCh st c K) : ∃ st', K st' st.ch.length ∧ Adv st st' ρ (upd ρ st.ch.length v) S (fun b => S b ∨ (w.heap.size ≤ b ∧ b < w'.heap.size)) w w' ∧ st.ch.length < st'.ch.length := by
  have hm' := hm.below hb
  let S' : Nat → Prop := fun b => S b ∨ (w.heap.size ≤ b ∧ b < w'.heap.size)
  have hm2 : MemOk st ρ S' w' := ⟨fun id hid => ChunkOk.mono (fun b hb => .inl hb) (fun _ _ => rfl) (fun _ _ => rfl) (hm'.ok id hid), hm.cells, hm.sep, fun i b hi hb' => by
    rintro (hS | ⟨h1, _⟩)
    · exact hm.out i b hi hb' hS
    · have := ownBlk_lt (hm.ok i hi) hb'; omega, fun b hb' => by
    rcases hb' with hS | ⟨_, h2⟩
    · exact hm'.lt b hS
    · exact h2, hm.ccl⟩
  obtain ⟨n, env, ch, bs, ids⟩ := st
  simp only [newCh, snocK_eq] at h
  cases ids with
  | nil => exact h.elim
  | cons i is =>
    simp only at h
    cases hbq : Nat.beq i ch.length with
    | false => simp [hbq] at h
    | true =>
      simp only [hbq] at h
      have hi := Nat.eq_of_beq_eq_true hbq
      subst hi
      refine ⟨_, h, ⟨rfl, rfl, rfl, ChRel.ofExt (ChExt.snoc _ _), fun id hid => upd_ne _ _ (Nat.ne_of_lt hid), ?_, fun _ h => .inl h, fun b hlt _ => hb.block b hlt, fun i b hi e => ?_, fun b hS' => ?_, yks_snoc hny, hb.size, hb.os, hb.tape, hb.output⟩, by simp [snocL_length]⟩
      · exact MemOk.addCh hm2 rfl rfl (hc _ _) (by rw [hce]; simp [svOkL]) (by rw [hcd]; intro p hp; simp at hp) (fun b e => by rw [hown] at e; cases e)
      · simp only [snocL_length] at hi
        by_cases hlt : i < ch.length
        · simp only [chGet_snoc_old _ _ _ hlt, upd_ne _ _ (Nat.ne_of_lt hlt)] at e; exact .inr ⟨i, hlt, e⟩
        · have e' : i = ch.length := by omega
          subst e'
          simp only [chGet_snoc_new, hown] at e; cases e
      · rcases hS' with h1 | ⟨h1, _⟩
        · exact .inl h1
        · exact .inr (.inl h1)

theorem adv_rd {w' : World} {v : Value} {c : Chunk} {K : St → Nat → Prop} (hm : MemOk st ρ S w) (hb : Below w.heap.size w w')
    (hc : ∀ bs ρ', ChunkOk bs (fun b => S b ∨ (w.heap.size ≤ b ∧ b < w'.heap.size)) w' ρ' c v) (hown : ∀ v, ownBlk c v = none) (hce : cellsIn c = []) (hcd : condsOf c = []) (hny : noY c = true)
    (h : newCh st c K) : ∃ st' S', K st' st.ch.length ∧ Adv st st' ρ (upd ρ st.ch.length v) S S' w w' ∧ st.ch.length < st'.ch.length :=
  let ⟨st', h1, h2, h3⟩ := adv_rdS hm hb hc hown hce hcd hny h
  ⟨st', _, h1, h2, h3⟩

/-- a function over a captured variable, which is only read -/
theorem lcall_fnRp {Kp : List PanicEntry → St → Prop} {f : Nat} {args : List SV} (g : Nat) (cells : List DV)
    (hc : ∀ ρ S w, MemOk st ρ S w → Calls P f (denL ρ args).toArray w fun e w' => ∃ v, e = .returned (.func (.func g) #[] #[v]) ∧ Below w.heap.size w w' ∧ DRep (fun b => S b ∨ (w.heap.size ≤ b ∧ b < w'.heap.size)) w' (.ptr cells) v)
    (h : newCh st (.rp [] cells) (fun st' id => K st' (.fn g [.bx id 0]))) : LCall P st f args K Kp := by
  intro ρ S w hm
  refine (hc ρ S w hm).mono fun e w' ⟨v, he, hb, hd⟩ => ?_
  obtain ⟨st', S', hK, hadv, hlt⟩ := adv_rd hm hb (c := .rp [] cells) (v := v) (fun _ _ _ => hd) (fun _ => rfl) rfl rfl rfl h
  refine .inl ⟨st', .fn g [.bx st.ch.length 0], _, S', ?_, hadv, by simpa [svOk, svOkL] using hlt, hK⟩
  rw [he]
  cases hd with
  | ptr b o cell _ _ _ => simp only [den, denL, upd_same, Nat.add_zero]

/-- a function over two captured variables, which are only read -/
theorem lcall_fnRp2 {Kp : List PanicEntry → St → Prop} {f : Nat} {args : List SV} (g : Nat) (c1 c2 : List DV)
    (hc : ∀ ρ S w, MemOk st ρ S w → Calls P f (denL ρ args).toArray w fun e w' => ∃ v u, e = .returned (.func (.func g) #[] #[v, u]) ∧ Below w.heap.size w w' ∧ DRep (fun b => S b ∨ (w.heap.size ≤ b ∧ b < w'.heap.size)) w' (.ptr c1) v ∧ DRep (fun b => S b ∨ (w.heap.size ≤ b ∧ b < w'.heap.size)) w' (.ptr c2) u)
    (h : newCh st (.rp [] c1) (fun st1 i1 => newCh st1 (.rp [] c2) (fun st2 i2 => K st2 (.fn g [.bx i1 0, .bx i2 0])))) : LCall P st f args K Kp := by
  intro ρ S w hm
  refine (hc ρ S w hm).mono fun e w' ⟨v, u, he, hb, hd, hd2⟩ => ?_
  obtain ⟨st1, h1, hadv1, hlt1⟩ := adv_rdS hm hb (c := .rp [] c1) (v := v) (fun _ _ _ => hd) (fun _ => rfl) rfl rfl rfl h
  obtain ⟨st2, h2, hadv2, hlt2⟩ := adv_rdS hadv1.mem (Below.refl _ _) (c := .rp [] c2) (v := u) (fun _ _ _ => DRep.mono (fun b hb => .inl hb) (fun _ _ => rfl) hd2) (fun _ => rfl) rfl rfl rfl h1
  refine .inl ⟨st2, .fn g [.bx st.ch.length 0, .bx st1.ch.length 0], _, _, ?_, hadv1.trans hadv2, ?_, h2⟩
  · rw [he]
    have e1 : upd (upd ρ st.ch.length v) st1.ch.length u st.ch.length = v := by rw [upd_ne _ _ (Nat.ne_of_lt hlt1), upd_same]
    cases hd with
    | ptr b o cell _ _ _ =>
      cases hd2 with
      | ptr b2 o2 cell2 _ _ _ => simp only [den, denL, upd_same, e1, Nat.add_zero]
  · simp only [svOk, svOkL, and_true]
    exact ⟨by omega, hlt2⟩

theorem MemOk.rpS (hm : MemOk st ρ S w) (id : Nat) {cells : List DV} (hid : Nat.blt id st.ch.length = true) (hc : chGet st.ch id = .rp [] cells) : DRep S w (.ptr cells) (den ρ (.bx id 0)) := by
  have := hm.ok id (blt_lt hid)
  rw [hc] at this
  have := this trivial
  simp only [den]
  generalize hv : ρ id = v at this
  cases this with
  | ptr b o cell hb hcell hrep => exact .ptr b o cell hb hcell hrep
theorem MemOk.rdS (hm : MemOk st ρ S w) (id : Nat) {α : Type} [inh : Inhabited α] {sz : Nat} {enc : α → List DV} {xs : List α} (hid : Nat.blt id st.ch.length = true) (hc : chGet st.ch id = .rd α inh sz enc xs) : DRep S w (.sl α inh sz enc xs) (ρ id) := by
  have := hm.ok id (blt_lt hid)
  rw [hc] at this
  exact this

/-- behind a walk: a box of one's own, as what may only be read from now on -/
theorem Inv.ptr {cx : Ctx} {w' : World} (h : Inv cx st ρ S w') (id : Nat) {t : TypeId} {cells : List SV} (hid : Nat.blt id st.ch.length = true) (hc : chGet st.ch id = .bx t cells) (ds : List DV) (hds : toDVs st cells = some ds)
    (hF : ∀ b, b < cx.wE.heap.size → cx.F b := by intro _ h; exact h) : DRep (fun b => cx.S0 b ∨ (cx.wE.heap.size ≤ b ∧ b < w'.heap.size)) w' (.ptr ds) (den ρ (.bx id 0)) := by
  have hid := blt_lt hid
  have hok := h.mem.ok id hid
  have hcl := h.mem.cells id
  rw [hc] at hok hcl
  obtain ⟨b, hv, hg⟩ := hok
  have hob : ownBlk (chGet st.ch id) (ρ id) = some b := by rw [hc, hv]; rfl
  obtain ⟨h4, h5⟩ := toDVs_sound h.mem cells ds hcl hds
  have hsub : ∀ b, S b → cx.S0 b ∨ (cx.wE.heap.size ≤ b ∧ b < w'.heap.size) := fun b hb => by
    rcases Nat.lt_or_ge b cx.wE.heap.size with hlt | hge
    · exact .inl (h.sf b (hF b hlt) hb)
    · exact .inr ⟨hge, h.mem.lt b hb⟩
  simp only [den, hv]
  refine .ptr b 0 (fun j => ((denL ρ cells)[j]?).getD undef) (.inr ⟨?_, (Array.getElem?_eq_some_iff.1 hg).1⟩) (fun j d hd => ?_) (fun j d hd => ?_)
  · rcases Nat.lt_or_ge b cx.wE.heap.size with hlt | hge
    · exact absurd hob ((h.frm b (hF b hlt)).2.2 id hid)
    · exact hge
  · obtain ⟨x, h1, _⟩ := h5 j d hd
    rw [Nat.zero_add, cell_of_row w' b _ _ t (0, 0) hg, h1]
    simpa using h1
  · obtain ⟨x, h1, h2⟩ := h5 j d hd
    rw [h1]
    exact DRep.mono hsub (fun _ _ => rfl) h2

/-! ### iterators -/
def iterK (cf : Cfg) (res : List ResultVar) (id N : Nat) (e : Exit) (st : St) : Prop :=
  match e with
  | .normal | .ret => (match resSVs cf.tt st res, chGet st.ch id with
    | some _, .yk _ go k => (go = true → k = N) ∧ k ≤ N
    | _, _ => False)
  | _ => False

theorem iter_exec {cf : Cfg} (hcf : CfgOk cf) {f : FuncId} {fn : Func} {c : Code} (hf : cf.P.funcs[f]? = some fn) (hb : fn.body = some c) (svs : List SV) (chs : List Chunk) (N : Nat) (vals : Nat → List Value) {lb : Array Value}
    (hk : Nat.ble (chs.length + 1) 300 = true) (hn : Nat.ble (svs.length + 1) fn.ntmps = true) (hsv : svOkL chs svs) (hS : ∀ b, S b → b < w.heap.size) (hargs : argsRd S w ρ chs 0) (hlb : lb = (denL ρ svs).toArray)
    (h : ∀ l : Nat, exec { cf with yN := N, yv := vals } (chs.length + 1) c ⟨fn.ntmps, entEnv (.v (.func (.yield l) #[] #[]) :: svs) nats, snocL chs (.yk l true 0), [], dropL nats (chs.length + 1)⟩ (iterK cf fn.results.toList chs.length N))
    (hrd : cf.rd = false := by rfl) : IterX cf.P f lb N (fun j => (vals j).toArray) S w := by
  intro l J W hG hsame hsz hos htp hou hstab hround ⟨U0, hU0, hJ0⟩
  have hnown : ∀ i v, i < chs.length → ownBlk (chGet chs i) v = none := fun i v hi => by
    rcases argsRd_get chs 0 hargs i hi with ⟨_, _, _, _, _, h1, _⟩ | ⟨_, h1, _⟩ <;> rw [h1] <;> rfl
  have hnyk : ∀ i l go n, chGet chs i ≠ .yk l go n := fun i l go n e => by
    by_cases hi : i < chs.length
    · rcases argsRd_get chs 0 hargs i hi with ⟨_, _, _, _, _, h1, _⟩ | ⟨_, h1, _⟩ <;> rw [h1] at e <;> cases e
    · rw [chGet_out _ _ (by omega)] at e; cases e
  let cf' : Cfg := { cf with yN := N, yv := vals }
  let st0 : St := ⟨fn.ntmps, entEnv (.v (.func (.yield l) #[] #[]) :: svs) nats, snocL chs (.yk l true 0), [], dropL nats (snocL chs (.yk l true 0)).length⟩
  have hlen : (snocL chs (.yk l true 0)).length = chs.length + 1 := snocL_length _ _
  let cx : Ctx := { wE := W, F := fun _ => False, k := (snocL chs (.yk l true 0)).length, ρ0 := ρ, l := l, G := S, J := J }
  have hcx : CxOk cf' cx := ⟨hstab, fun _ b hb => hb.elim, hround⟩
  have hm0 : MemOk ⟨fn.ntmps, [], chs, [], []⟩ ρ S W := (memRd (n := fn.ntmps) (env := []) (ids := []) hS hargs).stab (fun b hb => hsame b (hS b hb)) (fun i b hi e => by rw [hnown i _ hi] at e; cases e) hsz
  have hgo : ∀ i, (chGet (snocL chs (.yk l true 0)) i = chGet chs i ∧ i < chs.length) ∨ (i = chs.length ∧ chGet (snocL chs (.yk l true 0)) i = .yk l true 0) ∨ chGet (snocL chs (.yk l true 0)) i = .dead := fun i => by
    by_cases hi : i < chs.length
    · exact .inl ⟨chGet_snoc_old _ _ i hi, hi⟩
    · by_cases e : i = chs.length
      · subst e; exact .inr (.inl ⟨rfl, chGet_snoc_new _ _⟩)
      · exact .inr (.inr (chGet_out _ _ (by rw [hlen]; omega)))
  have hown' : ∀ i v, ownBlk (chGet (snocL chs (.yk l true 0)) i) v = none := fun i v => by
    rcases hgo i with ⟨h1, h2⟩ | ⟨_, h1⟩ | h1
    · rw [h1]; exact hnown i v h2
    · rw [h1]; rfl
    · rw [h1]; rfl
  have hyk' : ∀ i l' go n, chGet (snocL chs (.yk l true 0)) i = .yk l' go n → i = chs.length ∧ l' = l ∧ go = true ∧ n = 0 := fun i l' go n e => by
    rcases hgo i with ⟨h1, h2⟩ | ⟨h0, h1⟩ | h1
    · rw [h1] at e; exact absurd e (hnyk i _ _ _)
    · rw [h1] at e; simp only [Chunk.yk.injEq] at e; exact ⟨h0, e.1.symm, e.2.1.symm, e.2.2.symm⟩
    · rw [h1] at e; cases e
  have hmem : MemOk st0 ρ S W := by
    refine ⟨fun i hi => ?_, fun i => ?_, fun i j b _ _ _ e => (by simp only [st0, hown'] at e; cases e), fun i b _ e => (by simp only [st0, hown'] at e; cases e), hm0.lt, fun i => ?_⟩
    · simp only [st0] at hi ⊢
      rcases hgo i with ⟨h1, h2⟩ | ⟨_, h1⟩ | h1
      · rw [h1]; exact hm0.ok i h2
      · rw [h1]; trivial
      · rw [h1]; trivial
    · simp only [st0]
      rcases hgo i with ⟨h1, h2⟩ | ⟨_, h1⟩ | h1
      · rw [h1]; exact svOkL_ext (ChExt.snoc _ _) _ (hm0.cells i)
      · rw [h1]; simp [cellsIn, svOkL]
      · rw [h1]; simp [cellsIn, svOkL]
    · simp only [st0]
      rcases hgo i with ⟨h1, h2⟩ | ⟨_, h1⟩ | h1
      · rw [h1]; exact hm0.ccl i
      · rw [h1]; intro p hp; simp [condsOf] at hp
      · rw [h1]; intro p hp; simp [condsOf] at hp
  have hinv : Inv cx st0 ρ S W := ⟨hmem, fun _ hb => hb.elim, Nat.le_refl _, rfl, rfl, rfl, Nat.le_refl _, fun _ _ => rfl, fun i l' go n e => by
    obtain ⟨_, rfl, rfl, rfl⟩ := hyk' i l' go n e
    exact ⟨rfl, U0, hJ0, fun b hb => ⟨hU0 b hb, fun i _ => by simp only [st0, hown']; simp⟩, fun b hb => .inl hb⟩, fun i j li gi ni lj gj nj e1 e2 => by rw [(hyk' i _ _ _ e1).1, (hyk' j _ _ _ e2).1], fun b hb => hb.elim⟩
  have hn := Nat.le_of_ble_eq_true hn
  refine calls_execG (cf := cf') (cx := cx) ⟨hcf.mix, hcf.tt, hcf.fns⟩ hrd hcx hf hb (.v (.func (.yield l) #[] #[]) :: svs) (snocL chs (.yk l true 0)) (by rw [hlen]; exact hk) (by simpa using hn) ?_ ?_ rfl rfl rfl hinv (K := iterK cf fn.results.toList chs.length N) ?_ (by rw [hlen]; exact h l)
  · subst hlb; simp [denL, den]
  · simp only [svOkL]; exact ⟨by simp [svOk], svOkL_ext (ChExt.snoc _ _) _ hsv⟩
  · intro e st' hK
    have key : (match resSVs cf.tt st' fn.results.toList, chGet st'.ch chs.length with | some _, .yk _ go k => (go = true → k = N) ∧ k ≤ N | _, _ => False) → (match resSVs cf'.tt st' fn.results.toList with | some l => ∀ ρ S w', Inv cx st' ρ S w' → (∃ v, Ending.returned (retVal ρ l) = .returned v) ∧ ((∃ U, J true U N w') ∨ ∃ U k, k ≤ N ∧ J false U k w') | none => False) := by
      intro hK
      split at hK
      · rename_i l' _ go k hr hc
        have hr' : resSVs cf'.tt st' fn.results.toList = some l' := hr
        rw [hr']
        intro ρ' S' w' hi
        refine ⟨⟨_, rfl⟩, ?_⟩
        obtain ⟨_, U, hJ, _⟩ := hi.yl _ _ _ _ hc
        cases go with
        | true => rw [hK.1 rfl] at hJ; exact .inl ⟨U, hJ⟩
        | false => exact .inr ⟨U, k, hK.2, hJ⟩
      · exact hK.elim
    cases e with
    | normal => exact key hK
    | ret => exact key hK
    | _ => exact hK.elim
end
end Go.Eng

/-! part Snd21 -/
namespace Go.Eng
open Go.RowKit
open Classical

/-! ### calls that write what is the caller's own: the frame -/
section
variable {P : Program} {tt : TT} {st : St} {ρ : Nat → Value} {S : Nat → Prop} {w : World}

theorem nilOwn_kind {c : Chunk} (hc : nilOwn c) : ∃ t α inh sz enc, c = .own t α inh sz enc [] := by
  cases c with
  | own t α inh sz enc xs => have : xs = [] := hc; subst this; exact ⟨t, α, inh, sz, enc, rfl⟩
  | _ => exact hc.elim

/-- some of the chunks, numbered anew -/
structure Emb (ch : List Chunk) (m : List Nat) (ch' : List Chunk) : Prop where
  nd : nodupN m = true
  le : chsLe ch m ch' m ch'

theorem Emb.len {ch : List Chunk} {m : List Nat} {ch' : List Chunk} (h : Emb ch m ch') : m.length = ch'.length := (chsLe_get _ _ h.le).1

theorem Emb.own {m : List Nat} {ch' : List Chunk} (h : Emb st.ch m ch') : ∀ p, p < ch'.length → ∀ b, ownBlk (chGet ch' p) (renρ ρ m p) = some b → Nat.ble 1000 (renN m p) = false ∧ renN m p < st.ch.length ∧ ownBlk (chGet st.ch (renN m p)) (ρ (renN m p)) = some b := by
  intro p hp b hb
  obtain ⟨hlen, hget⟩ := chsLe_get _ _ h.le
  rcases hget p hp with ⟨h1, hnil⟩ | ⟨h1, hlt, hle⟩
  · exfalso
    obtain ⟨t, α, inh, sz, enc, hc⟩ := nilOwn_kind hnil
    rw [hc] at hb
    simp [renρ, h1, ownBlk, Value.ownBlock] at hb
  refine ⟨h1, hlt, ?_⟩
  simp only [renρ, h1] at hb
  revert hle
  revert hb
  cases chGet ch' p with
  | yk => intro hb; simp [ownBlk] at hb
  | dead => intro hb; simp [ownBlk] at hb
  | glb => intro hb; simp [ownBlk] at hb
  | ob ok =>
    intro hb hle
    simp only [chunkLe] at hle
    split at hle
    · rename_i hc; rw [hc]; exact (ownBlk_ob _ _ _).trans hb
    · exact hle.elim
  | rp => intro hb; simp [ownBlk] at hb
  | raw t n sz cells =>
    intro hb hle
    simp only [chunkLe] at hle
    split at hle
    · rename_i hc _; rw [hc]; exact hb
    · exact hle.elim
  | cnd => intro _ hle; exact hle.elim
  | rd => intro hb; simp [ownBlk] at hb
  | own t α inh sz enc xs => intro hb hle; rw [rawOwn_own hle]; exact hb
  | bx t cells =>
    intro hb hle
    simp only [chunkLe] at hle
    split at hle
    · rename_i hc _; rw [hc]; exact (ownBlk_bx _ _ _ _ _).trans hb
    · exact hle.elim

theorem Emb.mem {m : List Nat} {ch' : List Chunk} (h : Emb st.ch m ch') (hm : MemOk st ρ S w) (n' : Nat) (env' : List Ent) (ids' : List Nat) : MemOk ⟨n', env', ch', [], ids'⟩ (renρ ρ m) S w := by
  obtain ⟨hlen, hget⟩ := chsLe_get _ _ h.le
  have own := h.own (ρ := ρ)
  refine ⟨fun p hp => ?_, fun p => ?_, fun p q b hp hq hpq h1 h2 => ?_, fun p b hp h1 => ?_, hm.lt, fun p => ?_⟩
  · simp only at hp ⊢
    rcases hget p hp with ⟨h1, hnil⟩ | ⟨h1, hlt, hle⟩
    · obtain ⟨t, α, inh, sz, enc, hc⟩ := nilOwn_kind hnil
      rw [hc]
      simp only [renρ, h1]
      exact ⟨[], World.ownsRow_nil _ _ _ _, fun i j d hi => by simp at hi⟩
    have hok := hm.ok _ hlt
    simp only [renρ, h1]
    revert hle hok
    cases chGet ch' p with
    | yk => intro _ _; trivial
    | dead => intro _ _; trivial
    | glb g cells => intro hle hok; rw [show chGet st.ch (renN m p) = _ from hle] at hok; exact hok
    | ob ok =>
      intro hle hok
      simp only [chunkLe] at hle
      split at hle
      · rename_i hc; rw [hc] at hok; obtain ⟨r, ob, hv, hg, hob⟩ := hok; exact ⟨r, ob, hv, hg, hle ob hob⟩
      · exact hle.elim
    | raw t n sz cells =>
      intro hle hok
      simp only [chunkLe] at hle
      split at hle
      · rename_i t' n' sz' cells' hc _
        rw [hc] at hok
        obtain ⟨b, hb, hg⟩ := hok
        obtain ⟨e1, e2, e3, e4⟩ := hle
        refine ⟨b, by rw [← e2]; exact hb, ?_⟩
        have := denL_ren ρ m cells
        rw [← e4] at this
        rw [this, ← e1]
        exact hg
      · exact hle.elim
    | cnd => intro hle; exact hle.elim
    | rp L cells => intro hle hok _; obtain ⟨hle, rfl⟩ := hle; rw [show chGet st.ch (renN m p) = _ from hle] at hok; exact hok trivial
    | rd α inh sz enc xs => intro hle hok; rw [show chGet st.ch (renN m p) = _ from hle] at hok; exact hok
    | own t α inh sz enc xs =>
      intro hle hok
      rcases rawOwn_cases hle with e | ⟨n, cells, e, h2, h3⟩
      · rw [e] at hok; exact hok
      · exact raw_own hm hlt e h2 (h3 st)
    | bx t cells =>
      intro hle hok
      simp only [chunkLe] at hle
      split at hle
      · rename_i t' cells' hc _
        rw [hc] at hok
        obtain ⟨b, hb, hg⟩ := hok
        obtain ⟨e1, e2⟩ := hle
        refine ⟨b, hb, ?_⟩
        have := denL_ren ρ m cells
        rw [← e2] at this
        rw [this, ← e1]
        exact hg
      · exact hle.elim
  · simp only
    by_cases hp : p < ch'.length
    · rcases hget p hp with ⟨h1, hnil⟩ | ⟨h1, hlt, hle⟩
      · obtain ⟨t, α, inh, sz, enc, hc⟩ := nilOwn_kind hnil
        rw [hc]; simp [cellsIn, svOkL]
      revert hle
      cases chGet ch' p with
      | bx t cells =>
        intro hle
        simp only [chunkLe] at hle
        split at hle
        · rename_i hi; exact idsOkL_svOk _ hi
        · exact hle.elim
      | raw t n sz cells =>
        intro hle
        simp only [chunkLe] at hle
        split at hle
        · rename_i hi; exact idsOkL_svOk _ hi
        · exact hle.elim
      | _ => intro _; simp [cellsIn, svOkL]
    · rw [chGet_out _ _ (by omega)]; simp [cellsIn, svOkL]
  · simp only at hp hq
    obtain ⟨_, l1, o1⟩ := own p hp b h1
    obtain ⟨_, l2, o2⟩ := own q hq b h2
    exact hm.sep _ _ b l1 l2 (fun e => hpq (nodupN_inj m h.nd p q (by omega) (by omega) e)) o1 o2
  · simp only at hp
    obtain ⟨_, l1, o1⟩ := own p hp b h1
    exact hm.out _ b l1 o1
  · simp only
    by_cases hp : p < ch'.length
    · rcases hget p hp with ⟨h1, hnil⟩ | ⟨h1, hlt, hle⟩
      · obtain ⟨t, α, inh, sz, enc, hc⟩ := nilOwn_kind hnil
        rw [hc]; intro q hq; simp [condsOf] at hq
      revert hle
      cases chGet ch' p with
      | cnd => intro hle; exact hle.elim
      | rp L cells => intro hle; rw [show condsOf (.rp L cells) = L from rfl, hle.2]; intro q hq; simp at hq
      | _ => intro _ q hq; simp [condsOf] at hq
    · rw [chGet_out _ _ (by omega)]; intro q hq; simp [condsOf] at hq

/-! a walk that changes what is its caller's -/
def retSV : List SV → SV
  | [s] => s
  | l => .tup l
theorem den_retSV (ρ : Nat → Value) (l : List SV) : den ρ (retSV l) = retVal ρ l := by
  cases l with
  | nil => rfl
  | cons a r => cases r <;> rfl

def relC (c c' : Chunk) : Prop :=
  match lenOf c', lenOf c with
  | some n', some n => n ≤ n' ∧ szOf c' = szOf c
  | some _, none => False
  | none, _ => True
def relL : List Chunk → List Chunk → Prop
  | [], _ => True
  | _ :: _, [] => False
  | c :: r, c' :: r' => relC c c' ∧ relL r r'
theorem relL_get : ∀ (l l' : List Chunk), relL l l' → l.length ≤ l'.length ∧ ∀ i, i < l.length → relC (chGet l i) (chGet l' i)
  | [], _, _ => ⟨Nat.zero_le _, fun i h => by simp at h⟩
  | _ :: _, [], h => h.elim
  | c :: r, c' :: r', h => by
    obtain ⟨h1, h2⟩ := relL_get r r' h.2
    refine ⟨by simpa using h1, fun i hi => ?_⟩
    cases i with
    | zero => exact h.1
    | succ i => exact h2 i (by simpa using hi)
theorem relL_rel {l l' : List Chunk} (h : relL l l') : ChRel l l' := by
  obtain ⟨h1, h2⟩ := relL_get l l' h
  refine ⟨h1, fun i hi n' hn => ?_⟩
  have := h2 i hi
  unfold relC at this
  rw [hn] at this
  split at this
  · rename_i n'' n e1 e2; simp only [Option.some.injEq] at e1; subst e1; exact ⟨n, e2, this.1, this.2⟩
  · exact this.elim
  · rename_i e; cases e

def okC : Chunk → Bool
  | .yk _ _ _ => false
  | .cnd .. => false
  | .rp [] _ => true
  | .rp _ _ => false
  | _ => true
def okCs : List Chunk → Bool
  | [] => true
  | c :: r => match okC c with | true => okCs r | false => false
theorem okCs_get : ∀ (l : List Chunk), okCs l = true → ∀ i, okC (chGet l i) = true
  | [], _, i => by cases i <;> rfl
  | c :: r, h, i => by
    simp only [okCs] at h
    split at h
    · rename_i h1
      cases i with
      | zero => exact h1
      | succ i => exact okCs_get r h i
    · cases h

def subK (cf : Cfg) (res : List ResultVar) (k : Nat) (chs' : List Chunk) (r : SV) (e : Exit) (st : St) : Prop :=
  match e with
  | .normal | .ret => (match resSVs cf.tt st res with
    | some l => ∃ m : List Nat, nodupN m = true ∧ eqN (takeL m k) (takeL nats k) = true ∧ st.bs = [] ∧ chsLe st.ch m chs' m chs' ∧ retSV l = ren m r
    | none => False)
  | _ => False

/-- behind a walk over chunks handed in: what the caller has of them -/
theorem inv_sub {st' : St} {ρ ρ1 : Nat → Value} {S S1 : Nat → Prop} {w w' : World} {cx : Ctx} (m : List Nat) {chs chs' : List Chunk} (hcE : cx.wE = w) (hcF : cx.F = fun b => b < w.heap.size ∧ ∀ i, i < chs.length → ownBlk (chGet chs i) (ρ i) ≠ some b) (hck : chs.length ≤ cx.k) (hcρ : cx.ρ0 = ρ) (hcS : cx.S0 = S)
    (hm : MemOk ⟨0, [], chs, [], []⟩ ρ S w) (hi : Inv cx st' ρ1 S1 w') (hbs : st'.bs = []) (hk' : chs.length ≤ 300) (hrel : relL chs chs') (hok : okCs chs' = true)
    (hnd : nodupN m = true) (heq : eqN (takeL m chs.length) (takeL nats chs.length) = true) (hle : chsLe st'.ch m chs' m chs') :
    ∃ ρ' S', Adv ⟨0, [], chs, [], []⟩ ⟨0, [], chs', [], []⟩ ρ ρ' S S' w w' ∧ ∀ s, den ρ' s = den ρ1 (ren m s) := by
  have hi : Inv { cx with k := chs.length } st' ρ1 S1 w' := ⟨hi.mem, hi.frm, hi.size, hi.os, hi.tape, hi.output, Nat.le_trans hck hi.kle, fun id hid => hi.anch id (Nat.lt_of_lt_of_le hid hck), hi.yl, hi.one, hi.sf⟩
  have hfrm : ∀ b, (b < w.heap.size ∧ ∀ i, i < chs.length → ownBlk (chGet chs i) (ρ i) ≠ some b) → w'.heap[b]? = w.heap[b]? ∧ ∀ i, i < st'.ch.length → ownBlk (chGet st'.ch i) (ρ1 i) ≠ some b := fun b hb => by
    have := hi.frm b (by show cx.F b; rw [hcF]; exact hb)
    exact ⟨by have h2 := this.2.1; simp only [hcE] at h2; exact h2, this.2.2⟩
  have hsize : w.heap.size ≤ w'.heap.size := by have := hi.size; simp only [hcE] at this; exact this
  have hanch : ∀ id, id < chs.length → ρ1 id = ρ id := fun id hid => by have := hi.anch id hid; simp only [hcρ] at this; exact this
  have hsf : ∀ b, (b < w.heap.size ∧ ∀ i, i < chs.length → ownBlk (chGet chs i) (ρ i) ≠ some b) → S1 b → S b := fun b h1 h2 => by have := hi.sf b (by show cx.F b; rw [hcF]; exact h1) h2; simp only [hcS] at this; exact this
  have hemb : Emb st'.ch m chs' := ⟨hnd, hle⟩
  have heq := eqN_eq heq
  have hmlen := hemb.len
  have hmk : chs.length ≤ m.length := by
    have := congrArg List.length heq
    rw [takeL_eq, takeL_eq, List.length_take, List.length_take] at this
    have hnl : nats.length = 300 := by decide +kernel
    omega
  have hid : ∀ id, id < chs.length → renN m id = id ∧ Nat.ble 1000 id = false := by
    intro id hid
    refine ⟨?_, ?_⟩
    · rw [renN_eq]
      have h1 : (takeL m chs.length)[id]? = (takeL nats chs.length)[id]? := by rw [heq]
      rw [takeL_eq, takeL_eq, List.getElem?_take, List.getElem?_take, if_pos hid, if_pos hid] at h1
      have h2 : nats[id]? = some id := by
        have hnl : nats.length = 300 := by decide +kernel
        have hx : id < nats.length := by omega
        have := nats_get id nats[id] (by simp)
        rw [List.getElem?_eq_getElem hx, this, Nat.zero_add]
      rw [h2] at h1
      simp [h1]
    · cases hb : Nat.ble 1000 id with
      | false => rfl
      | true => have := Nat.le_of_ble_eq_true hb; omega
  have hρ : ∀ id, id < chs.length → renρ ρ1 m id = ρ id := by
    intro id h
    obtain ⟨e1, e2⟩ := hid id h
    simp only [renρ, e1, e2]
    exact hanch id h
  have own := hemb.own (ρ := ρ1)
  have hm2 : MemOk ⟨0, [], chs', [], []⟩ (renρ ρ1 m) S1 w' := hemb.mem hi.mem _ _ _
  have hown : ∀ i b, i < chs'.length → ownBlk (chGet chs' i) (renρ ρ1 m i) = some b → w.heap.size ≤ b ∨ ∃ j, j < chs.length ∧ ownBlk (chGet chs j) (ρ j) = some b := fun i b hi' e => by
    obtain ⟨_, l1, o1⟩ := own i hi' b e
    rcases Nat.lt_or_ge b w.heap.size with hlt | hge
    · by_cases hex : ∃ j, j < chs.length ∧ ownBlk (chGet chs j) (ρ j) = some b
      · exact .inr hex
      · exact absurd o1 ((hfrm b ⟨hlt, fun j hj e => hex ⟨j, hj, e⟩⟩).2 _ l1)
    · exact .inl hge
  have hm3 : MemOk ⟨0, [], chs', [], []⟩ (renρ ρ1 m) (fun b => S b ∨ S1 b) w' := ⟨fun id hid => ChunkOk.mono (fun b hb => .inr hb) (fun _ _ => rfl) (fun _ _ => rfl) (hm2.ok id hid), hm2.cells, hm2.sep, fun i b hi' e hb => by
    rcases hb with hb | hb
    · rcases hown i b hi' e with h1 | ⟨j, hj, h1⟩
      · have := hm.lt b hb; omega
      · exact hm.out j b hj h1 hb
    · exact hm2.out i b hi' e hb, fun b hb => by
    rcases hb with hb | hb
    · exact Nat.lt_of_lt_of_le (hm.lt b hb) hsize
    · exact hm2.lt b hb, hm2.ccl⟩
  refine ⟨renρ ρ1 m, fun b => S b ∨ S1 b, ⟨rfl, rfl, rfl, relL_rel hrel, hρ, hm3, fun b hS => .inl hS, fun b hlt hno => (hfrm b ⟨hlt, hno⟩).1, fun i b hi' e => ?_, fun b hS => ?_, fun i l go n e => ?_, hsize, by have := hi.os; simp only [hcE] at this; exact this, by have := hi.tape; simp only [hcE] at this; exact this, by have := hi.output; simp only [hcE] at this; exact this⟩, fun s => by rw [den_ren]⟩
  · exact hown i b hi' e
  · rcases hS with hS | hS
    · exact .inl hS
    rcases Nat.lt_or_ge b w.heap.size with hlt | hge
    · by_cases hex : ∃ j, j < chs.length ∧ ownBlk (chGet chs j) (ρ j) = some b
      · exact .inr (.inr hex)
      · exact .inl (hsf b ⟨hlt, fun j hj e => hex ⟨j, hj, e⟩⟩ hS)
    · exact .inr (.inl hge)
  · have := okCs_get chs' hok i
    have e : chGet chs' i = .yk l go n := e
    rw [e] at this; cases this

/-- the ends of a walk that may panic -/
def subKP (cf : Cfg) (res : List ResultVar) (k : Nat) (A : Prop) (chs1 : List Chunk) (r : SV) (B : Prop) (chs2 : List Chunk) (pc : List PanicEntry) (e : Exit) (st : St) : Prop :=
  match e with
  | .normal | .ret => (match resSVs cf.tt st res with
    | some l => A ∧ ∃ m : List Nat, nodupN m = true ∧ eqN (takeL m k) (takeL nats k) = true ∧ st.bs = [] ∧ chsLe st.ch m chs1 m chs1 ∧ retSV l = ren m r
    | none => False)
  | .panic pc' => B ∧ pc' = pc ∧ ∃ m : List Nat, nodupN m = true ∧ eqN (takeL m k) (takeL nats k) = true ∧ st.bs = [] ∧ chsLe st.ch m chs2 m chs2
  | _ => False

theorem lcall_exec {cf : Cfg} (hcf : CfgOk cf) {f : FuncId} {fn : Func} {c : Code} (hf : cf.P.funcs[f]? = some fn) (hb : fn.body = some c) (svs : List SV) (chs chs' : List Chunk) (r : SV)
    (hk : Nat.ble chs.length 300 = true) (hn : Nat.ble svs.length fn.ntmps = true) (hsv : svOkL chs svs) (hny : noYk chs = true) (hrel : relL chs chs') (hr : idsOk chs' r = true) (hok : okCs chs' = true)
    (h : exec cf chs.length c ⟨fn.ntmps, entEnv svs nats, chs, [], dropL nats chs.length⟩ (subK cf fn.results.toList chs.length chs' r))
    (hrd : cf.rd = false := by rfl) (hy0 : cf.yN = 0 := by rfl) : LCall cf.P ⟨0, [], chs, [], []⟩ f svs (fun st' s => st'.ch = chs' ∧ s = r) := by
  intro ρ S w hm
  have hk' := Nat.le_of_ble_eq_true hk
  refine Calls.mono (R := fun e w' => ∃ st' s ρ' S', e = .returned (den ρ' s) ∧ Adv ⟨0, [], chs, [], []⟩ st' ρ ρ' S S' w w' ∧ svOk st'.ch s ∧ st'.ch = chs' ∧ s = r) ?_ (fun e w' h => .inl h)
  refine (callsIn_wide (n := 0)).1 (calls_execG (K := subK cf fn.results.toList chs.length chs' r) hcf hrd (cx := { wE := w, F := fun b => b < w.heap.size ∧ ∀ i, i < chs.length → ownBlk (chGet chs i) (ρ i) ≠ some b, k := chs.length, ρ0 := ρ, S0 := S }) (CxOk.triv hy0 (fun _ _ _ _ => rfl)) hf hb svs chs hk hn rfl hsv rfl rfl rfl
    ⟨hm.ids, fun b hb => ⟨hb.1, rfl, hb.2⟩, Nat.le_refl _, rfl, rfl, rfl, Nat.le_refl _, fun _ _ => rfl, fun id l go n e => absurd e (noYk_get hny id l go n), fun p q lp gp np lq gq nq e1 _ => absurd e1 (noYk_get hny p lp gp np), fun _ _ hS => hS⟩ (fun e st' hK => ?_) h)
  have key : (match resSVs cf.tt st' fn.results.toList with
    | some l => ∃ m : List Nat, nodupN m = true ∧ eqN (takeL m chs.length) (takeL nats chs.length) = true ∧ st'.bs = [] ∧ chsLe st'.ch m chs' m chs' ∧ retSV l = ren m r
    | none => False) → (match resSVs cf.tt st' fn.results.toList with
    | some l => ∀ ρ1 S1 w', Inv { wE := w, F := fun b => b < w.heap.size ∧ ∀ i, i < chs.length → ownBlk (chGet chs i) (ρ i) ≠ some b, k := chs.length, ρ0 := ρ, S0 := S } st' ρ1 S1 w' →
        (∃ st2 s ρ' S', Ending.returned (retVal ρ1 l) = .returned (den ρ' s) ∧ Adv ⟨0, [], chs, [], []⟩ st2 ρ ρ' S S' w w' ∧ svOk st2.ch s ∧ st2.ch = chs' ∧ s = r)
    | none => False) := by
    intro hK
    split at hK
    · rename_i l hl
      intro ρ1 S1 w' hi
      obtain ⟨m, hnd, heq, hbs, hle, hrl⟩ := hK
      have hemb : Emb st'.ch m chs' := ⟨hnd, hle⟩
      have heq := eqN_eq heq
      have hmlen := hemb.len
      have hmk : chs.length ≤ m.length := by
        have := congrArg List.length heq
        rw [takeL_eq, takeL_eq, List.length_take, List.length_take] at this
        have hnl : nats.length = 300 := by decide +kernel
        omega
      have hid : ∀ id, id < chs.length → renN m id = id ∧ Nat.ble 1000 id = false := by
        intro id hid
        refine ⟨?_, ?_⟩
        · rw [renN_eq]
          have h1 : (takeL m chs.length)[id]? = (takeL nats chs.length)[id]? := by rw [heq]
          rw [takeL_eq, takeL_eq, List.getElem?_take, List.getElem?_take, if_pos hid, if_pos hid] at h1
          have h2 : nats[id]? = some id := by
            have hnl : nats.length = 300 := by decide +kernel
            have hx : id < nats.length := by omega
            have := nats_get id nats[id] (by simp)
            rw [List.getElem?_eq_getElem hx, this, Nat.zero_add]
          rw [h2] at h1
          simp [h1]
        · cases hb : Nat.ble 1000 id with
          | false => rfl
          | true => have := Nat.le_of_ble_eq_true hb; omega
      have hρ : ∀ id, id < chs.length → renρ ρ1 m id = ρ id := by
        intro id h
        obtain ⟨e1, e2⟩ := hid id h
        simp only [renρ, e1, e2]
        exact hi.anch id h
      have own := hemb.own (ρ := ρ1)
      have hm2 : MemOk ⟨0, [], chs', [], []⟩ (renρ ρ1 m) S1 w' := hemb.mem hi.mem _ _ _
      have hown : ∀ i b, i < chs'.length → ownBlk (chGet chs' i) (renρ ρ1 m i) = some b → w.heap.size ≤ b ∨ ∃ j, j < chs.length ∧ ownBlk (chGet chs j) (ρ j) = some b := fun i b hi' e => by
        obtain ⟨_, l1, o1⟩ := own i hi' b e
        rcases Nat.lt_or_ge b w.heap.size with hlt | hge
        · by_cases hex : ∃ j, j < chs.length ∧ ownBlk (chGet chs j) (ρ j) = some b
          · exact .inr hex
          · exact absurd o1 ((hi.frm b ⟨hlt, fun j hj e => hex ⟨j, hj, e⟩⟩).2.2 _ l1)
        · exact .inl hge
      have hm3 : MemOk ⟨0, [], chs', [], []⟩ (renρ ρ1 m) (fun b => S b ∨ S1 b) w' := ⟨fun id hid => ChunkOk.mono (fun b hb => .inr hb) (fun _ _ => rfl) (fun _ _ => rfl) (hm2.ok id hid), hm2.cells, hm2.sep, fun i b hi' e hb => by
        rcases hb with hb | hb
        · rcases hown i b hi' e with h1 | ⟨j, hj, h1⟩
          · have := hm.lt b hb; omega
          · exact hm.out j b hj h1 hb
        · exact hm2.out i b hi' e hb, fun b hb => by
        rcases hb with hb | hb
        · exact Nat.lt_of_lt_of_le (hm.lt b hb) hi.size
        · exact hm2.lt b hb, hm2.ccl⟩
      refine ⟨⟨0, [], chs', [], []⟩, r, renρ ρ1 m, fun b => S b ∨ S1 b, ?_, ⟨rfl, rfl, rfl, relL_rel hrel, hρ, hm3, fun b hS => .inl hS, fun b hlt hno => (hi.frm b ⟨hlt, hno⟩).2.1, fun i b hi' e => ?_, fun b hS => ?_, fun i l go n e => ?_, hi.size, hi.os, hi.tape, hi.output⟩, idsOk_svOk _ hr, rfl, rfl⟩
      · rw [den_ren, ← hrl, den_retSV]
      · exact hown i b hi' e
      · rcases hS with hS | hS
        · exact .inl hS
        rcases Nat.lt_or_ge b w.heap.size with hlt | hge
        · by_cases hex : ∃ j, j < chs.length ∧ ownBlk (chGet chs j) (ρ j) = some b
          · exact .inr (.inr hex)
          · exact .inl (hi.sf b ⟨hlt, fun j hj e => hex ⟨j, hj, e⟩⟩ hS)
        · exact .inr (.inl hge)
      · have := okCs_get chs' hok i
        have e : chGet chs' i = .yk l go n := e
        rw [e] at this; cases this
    · exact hK.elim
  cases e with
  | normal => exact key hK
  | ret => exact key hK
  | _ => exact hK.elim
end
end Go.Eng

/-! part Snd22 -/
namespace Go.Eng
open Go.RowKit
open Classical

def renC (m : List Nat) : Chunk → Chunk
  | .bx t cells => .bx t (renL m cells)
  | .raw t n sz cells => .raw t n sz (renL m cells)
  | c => c
def setsL (m' : List Nat) : List Nat → List Chunk → List Chunk → List Chunk
  | i :: is, c :: cs, ch => setsL m' is cs (setCh ch i (renC m' c))
  | _, _, ch => ch
def newsL (m' : List Nat) : List Chunk → List Chunk → List Chunk
  | c :: r, ch => newsL m' r (snocL ch (renC m' c))
  | [], ch => ch
def setsK (m' : List Nat) : List Nat → List Chunk → List Chunk → (List Chunk → Prop) → Prop
  | i :: is, c :: cs, ch, K => setK ch i (renC m' c) (fun ch' => setsK m' is cs ch' K)
  | _, _, ch, K => K ch
def newsK (m' : List Nat) : List Chunk → List Chunk → (List Chunk → Prop) → Prop
  | c :: r, ch, K => snocK ch (renC m' c) (fun ch' => newsK m' r ch' K)
  | [], ch, K => K ch
theorem setsK_eq (m' : List Nat) : ∀ (is : List Nat) (cs ch : List Chunk) (K : List Chunk → Prop), setsK m' is cs ch K = K (setsL m' is cs ch)
  | [], _, _, _ => rfl
  | _ :: _, [], _, _ => rfl
  | i :: is, c :: cs, ch, K => by simp only [setsK, setK_eq, setsL, setsK_eq m' is cs]
theorem newsK_eq (m' : List Nat) : ∀ (r ch : List Chunk) (K : List Chunk → Prop), newsK m' r ch K = K (newsL m' r ch)
  | [], _, _ => rfl
  | c :: r, ch, K => by simp only [newsK, snocK_eq, newsL, newsK_eq m' r]
def numsFrom : Nat → List Chunk → List Nat
  | _, [] => []
  | n, _ :: r => n :: numsFrom (n + 1) r
/-- the caller's chunks behind the call -/
def subSt (st : St) (m : List Nat) (chs' : List Chunk) (K : St → List Nat → Prop) : Prop :=
  match st with
  | ⟨n, env, ch, bs, _⟩ => setsK (catN m (numsFrom ch.length (dropL chs' m.length))) m chs' ch (fun ch1 => newsK (catN m (numsFrom ch.length (dropL chs' m.length))) (dropL chs' m.length) ch1 (fun ch2 => K ⟨n, env, ch2, bs, dropL nats ch2.length⟩ (catN m (numsFrom ch.length (dropL chs' m.length)))))
def allLt (n : Nat) : List Nat → Bool
  | [] => true
  | i :: r => match Nat.blt i n with | true => allLt n r | false => false
theorem allLt_get {n : Nat} : ∀ {m : List Nat}, allLt n m = true → ∀ p, p < m.length → renN m p < n
  | [], _, p, h => by simp at h
  | i :: r, h, p, hp => by
    simp only [allLt] at h
    split at h
    · rename_i h1
      cases p with
      | zero => simpa [renN, dropL] using blt_lt h1
      | succ p => have := allLt_get h p (by simpa using hp); simpa [renN, dropL] using this
    · cases h

theorem setsL_len (m' : List Nat) : ∀ (is : List Nat) (cs ch : List Chunk), (setsL m' is cs ch).length = ch.length
  | [], _, _ => rfl
  | _ :: _, [], _ => rfl
  | i :: is, c :: cs, ch => by simp only [setsL, setsL_len m' is cs, setCh_length]
theorem setsL_oth (m' : List Nat) : ∀ (is : List Nat) (cs ch : List Chunk) (j : Nat), (∀ p, p < is.length → renN is p < ch.length) → (∀ p, p < is.length → renN is p ≠ j) → chGet (setsL m' is cs ch) j = chGet ch j
  | [], _, _, _, _, _ => rfl
  | _ :: _, [], _, _, _, _ => rfl
  | i :: is, c :: cs, ch, j, hlt, h => by
    have h0 : i < ch.length := by simpa [renN, dropL] using hlt 0 (by simp)
    have hne : i ≠ j := by simpa [renN, dropL] using h 0 (by simp)
    simp only [setsL]
    rw [setsL_oth m' is cs _ j (fun p hp => by rw [setCh_length]; have := hlt (p + 1) (by simpa using hp); simpa [renN, dropL] using this) (fun p hp => by have := h (p + 1) (by simpa using hp); simpa [renN, dropL] using this), chGet_setCh _ _ _ _ h0, if_neg (fun e => hne e.symm)]
theorem setsL_at (m' : List Nat) : ∀ (is : List Nat) (cs ch : List Chunk) (p : Nat), nodupN is = true → (∀ p, p < is.length → renN is p < ch.length) → p < is.length → is.length ≤ cs.length → chGet (setsL m' is cs ch) (renN is p) = renC m' (chGet cs p)
  | [], _, _, p, _, _, h, _ => by simp at h
  | _ :: _, [], _, _, _, _, _, h => by simp at h
  | i :: is, c :: cs, ch, p, hnd, hlt, hp, hl => by
    have h0 : i < ch.length := by simpa [renN, dropL] using hlt 0 (by simp)
    have hinj := nodupN_inj (i :: is) hnd
    have hnd' : nodupN is = true := by
      simp only [nodupN] at hnd
      split at hnd
      · cases hnd
      · exact hnd
    have hlt' : ∀ p, p < is.length → renN is p < (setCh ch i (renC m' c)).length := fun p hp => by rw [setCh_length]; have := hlt (p + 1) (by simpa using hp); simpa [renN, dropL] using this
    simp only [setsL]
    cases p with
    | zero =>
      have e0 : renN (i :: is) 0 = i := by simp [renN, dropL]
      rw [e0, setsL_oth m' is cs _ i hlt' (fun q hq e => ?_), chGet_setCh _ _ _ _ h0, if_pos rfl]
      · rfl
      · have := hinj 0 (q + 1) (by simp) (by simpa using hq) (by rw [e0]; simpa [renN, dropL] using e.symm)
        omega
    | succ p =>
      have e1 : renN (i :: is) (p + 1) = renN is p := by simp [renN, dropL]
      rw [e1]
      exact setsL_at m' is cs _ p hnd' hlt' (by simpa using hp) (by simpa using hl)
theorem newsL_len (m' : List Nat) : ∀ (r ch : List Chunk), (newsL m' r ch).length = ch.length + r.length
  | [], _ => rfl
  | c :: r, ch => by simp only [newsL, newsL_len m' r, snocL_length, List.length_cons]; omega
theorem newsL_old (m' : List Nat) : ∀ (r ch : List Chunk) (j : Nat), j < ch.length → chGet (newsL m' r ch) j = chGet ch j
  | [], _, _, _ => rfl
  | c :: r, ch, j, h => by simp only [newsL]; rw [newsL_old m' r _ j (by rw [snocL_length]; omega), chGet_snoc_old _ _ _ h]
theorem newsL_new (m' : List Nat) : ∀ (r ch : List Chunk) (j : Nat), j < r.length → chGet (newsL m' r ch) (ch.length + j) = renC m' (chGet r j)
  | [], _, j, h => by simp at h
  | c :: r, ch, 0, _ => by
    simp only [newsL, Nat.add_zero]
    rw [newsL_old m' r _ _ (by rw [snocL_length]; omega), chGet_snoc_new]; rfl
  | c :: r, ch, j + 1, h => by
    simp only [newsL]
    have := newsL_new m' r (snocL ch (renC m' c)) j (by simpa using h)
    rw [snocL_length, show ch.length + 1 + j = ch.length + (j + 1) from by omega] at this
    exact this
theorem chGet_drop : ∀ (l : List Chunk) (k j : Nat), chGet (dropL l k) j = chGet l (k + j)
  | l, 0, j => by simp [dropL]
  | [], k + 1, j => by
    rw [chGet_out [] (k + 1 + j) (by simp)]
    cases j <;> rfl
  | a :: r, k + 1, j => by rw [show k + 1 + j = (k + j) + 1 from by omega]; simp only [dropL, chGet]; exact chGet_drop r k j
theorem numsFrom_len : ∀ (n : Nat) (r : List Chunk), (numsFrom n r).length = r.length
  | _, [] => rfl
  | n, _ :: r => by simp [numsFrom, numsFrom_len (n + 1) r]
theorem numsFrom_get : ∀ (n : Nat) (r : List Chunk) (j : Nat), j < r.length → (numsFrom n r)[j]? = some (n + j)
  | _, [], j, h => by simp at h
  | n, _ :: r, 0, _ => rfl
  | n, _ :: r, j + 1, h => by
    simp only [numsFrom, List.getElem?_cons_succ]
    rw [numsFrom_get (n + 1) r j (by simpa using h)]
    congr 1; omega

theorem lenOf_renC (m : List Nat) (c : Chunk) : lenOf (renC m c) = lenOf c := by cases c <;> rfl
theorem szOf_renC (m : List Nat) (c : Chunk) : szOf (renC m c) = szOf c := by cases c <;> rfl
theorem ownBlk_renC (m : List Nat) (c : Chunk) (v : Value) : ownBlk (renC m c) v = ownBlk c v := by
  cases c with
  | bx t cells => exact ownBlk_bx _ _ _ _ _
  | _ => rfl
theorem okC_renC (m : List Nat) (c : Chunk) : okC (renC m c) = okC c := by cases c <;> rfl

mutual
theorem svOk_ren {ch ch2 : List Chunk} {m : List Nat} (h : ∀ q, q < ch.length → renN m q < ch2.length ∧ Nat.ble 1000 (renN m q) = false ∧ chGet ch2 (renN m q) = renC m (chGet ch q)) : ∀ s, svOk ch s → svOk ch2 (ren m s)
  | .v _, _ => by simp [ren, svOk]
  | .bx id off, hs => by simp only [svOk] at hs; obtain ⟨h1, h2, _⟩ := h id hs; simp only [ren, h2, svOk]; exact h1
  | .el id sz i off, hs => by
    simp only [svOk] at hs
    obtain ⟨h1, h2, h3⟩ := h id hs.1
    simp only [ren, h2, svOk]
    exact ⟨h1, fun n hn => by rw [h3, lenOf_renC] at hn; rw [h3, szOf_renC]; exact hs.2 n hn⟩
  | .sl id, hs => by simp only [svOk] at hs; obtain ⟨h1, h2, _⟩ := h id hs; simp only [ren, h2, svOk]; exact h1
  | .agg l, hs => by simp only [svOk] at hs; simp only [ren, svOk]; exact svOkL_ren h l hs
  | .tup l, hs => by simp only [svOk] at hs; simp only [ren, svOk]; exact svOkL_ren h l hs
  | .fn f l, hs => by simp only [svOk] at hs; simp only [ren, svOk]; exact svOkL_ren h l hs
  | .mv f l1 l2, hs => by simp only [svOk] at hs; simp only [ren, svOk]; exact ⟨svOkL_ren h l1 hs.1, svOkL_ren h l2 hs.2⟩
  | .junk, _ => by simp [ren, svOk]
theorem svOkL_ren {ch ch2 : List Chunk} {m : List Nat} (h : ∀ q, q < ch.length → renN m q < ch2.length ∧ Nat.ble 1000 (renN m q) = false ∧ chGet ch2 (renN m q) = renC m (chGet ch q)) : ∀ l, svOkL ch l → svOkL ch2 (renL m l)
  | [], _ => by simp [renL, svOkL]
  | s :: r, hs => by simp only [svOkL] at hs; simp only [renL, svOkL]; exact ⟨svOk_ren h s hs.1, svOkL_ren h r hs.2⟩
end

theorem sub_core {st st0 : St} {K : St → SV → Prop} {ρ ρ0 : Nat → Value} {S S0 : Nat → Prop} {w w' : World} (m : List Nat) {chs chs' : List Chunk} {s : SV} (hm : MemOk st ρ S w) (hadv : Adv ⟨0, [], chs, [], []⟩ st0 (renρ ρ m) ρ0 S S0 w w') (hch0 : st0.ch = chs') (hs : svOk st0.ch s)
    (hnd : nodupN m = true) (hlt : allLt st.ch.length m = true) (hok : okCs chs' = true) (hsz : Nat.blt (st.ch.length + chs'.length) 1000 = true)
    (hle : chsLe st.ch m chs m chs) (h : subSt st m chs' (fun st' m' => K st' (ren m' s))) : ∃ st' s' ρ' S', den ρ' s' = den ρ0 s ∧ Adv st st' ρ ρ' S S' w w' ∧ svOk st'.ch s' ∧ K st' s' := by
  have hemb : Emb st.ch m chs := ⟨hnd, hle⟩
  have hmlt := allLt_get hlt
  have hml := hemb.len
  have hsz := blt_lt hsz
  have hkl : chs.length ≤ chs'.length := by have := hadv.rel.1; rw [hch0] at this; exact this
  have hm1 : MemOk ⟨0, [], chs', [], []⟩ ρ0 S0 w' := by
    have := hadv.mem
    obtain ⟨n0, e0, c0, b0, i0⟩ := st0
    have hb0 : b0 = [] := hadv.bs
    simp only at hch0
    subst hch0 hb0
    exact this.ids
  rw [hch0] at hs
  obtain ⟨n, env, ch, bs, ids⟩ := st
  simp only [subSt, setsK_eq, newsK_eq] at h
  simp only at hmlt hsz
  generalize hm' : catN m (numsFrom ch.length (dropL chs' m.length)) = m' at h
  generalize hch2 : newsL m' (dropL chs' m.length) (setsL m' m chs' ch) = ch2 at h
  have hdl : (dropL chs' m.length).length = chs'.length - m.length := by rw [dropL_eq, List.length_drop]
  have hlen2 : ch2.length = ch.length + (chs'.length - m.length) := by rw [← hch2, newsL_len, setsL_len, hdl]
  have hm1' : ∀ q, q < m.length → renN m' q = renN m q := fun q hq => by
    rw [← hm', catN_eq, renN_eq, renN_eq]
    simp [List.getElem?_append_left hq]
  have hm2' : ∀ q, m.length ≤ q → q < chs'.length → renN m' q = ch.length + (q - m.length) := fun q h1 h2 => by
    rw [← hm', catN_eq, renN_eq, List.getD_eq_getElem?_getD, List.getElem?_append_right h1, numsFrom_get _ _ _ (by rw [hdl]; omega)]
    rfl
  have hq : ∀ q, q < chs'.length → renN m' q < ch2.length ∧ Nat.ble 1000 (renN m' q) = false ∧ chGet ch2 (renN m' q) = renC m' (chGet chs' q) := by
    intro q hq
    have key : renN m' q < ch2.length ∧ chGet ch2 (renN m' q) = renC m' (chGet chs' q) := by
      rcases Nat.lt_or_ge q m.length with h1 | h1
      · rw [hm1' q h1]
        have h2 := hmlt q h1
        refine ⟨by omega, ?_⟩
        rw [← hch2, newsL_old _ _ _ _ (by rw [setsL_len]; exact h2)]
        exact setsL_at m' m chs' ch q hnd hmlt h1 (by omega)
      · rw [hm2' q h1 hq]
        refine ⟨by omega, ?_⟩
        have := newsL_new m' (dropL chs' m.length) (setsL m' m chs' ch) (q - m.length) (by rw [hdl]; omega)
        rw [setsL_len, hch2, chGet_drop, show m.length + (q - m.length) = q from by omega] at this
        exact this
    refine ⟨key.1, ?_, key.2⟩
    cases hb : Nat.ble 1000 (renN m' q) with
    | false => rfl
    | true => have := Nat.le_of_ble_eq_true hb; omega
  have hinj : ∀ p q, p < chs'.length → q < chs'.length → renN m' p = renN m' q → p = q := by
    intro p q hp hq' e
    rcases Nat.lt_or_ge p m.length with h1 | h1 <;> rcases Nat.lt_or_ge q m.length with h2 | h2
    · rw [hm1' p h1, hm1' q h2] at e; exact nodupN_inj m hnd p q h1 h2 e
    · rw [hm1' p h1, hm2' q h2 hq'] at e; have := hmlt p h1; omega
    · rw [hm2' p h1 hp, hm1' q h2] at e; have := hmlt q h2; omega
    · rw [hm2' p h1 hp, hm2' q h2 hq'] at e; omega
  -- what stands at a number
  have hcase : ∀ i, i < ch2.length → (∃ q, q < chs'.length ∧ i = renN m' q) ∨ (i < ch.length ∧ (∀ q, q < m.length → renN m q ≠ i) ∧ chGet ch2 i = chGet ch i) := by
    intro i hi
    by_cases h1 : ∃ q, q < m.length ∧ renN m q = i
    · obtain ⟨q, h2, h3⟩ := h1
      exact .inl ⟨q, by omega, by rw [hm1' q h2, h3]⟩
    · rcases Nat.lt_or_ge i ch.length with h2 | h2
      · refine .inr ⟨h2, fun q hq e => h1 ⟨q, hq, e⟩, ?_⟩
        rw [← hch2, newsL_old _ _ _ _ (by rw [setsL_len]; exact h2), setsL_oth m' m chs' ch i hmlt (fun q hq e => h1 ⟨q, hq, e⟩)]
      · exact .inl ⟨m.length + (i - ch.length), by omega, by rw [hm2' _ (by omega) (by omega)]; omega⟩
  let ρ' : Nat → Value := fun i => if i < ch.length then ρ i else ρ0 (m.length + (i - ch.length))
  have hρq : ∀ q, q < chs'.length → ρ' (renN m' q) = ρ0 q := by
    intro q hq'
    rcases Nat.lt_or_ge q m.length with h1 | h1
    · have h2 := hmlt q h1
      rw [hm1' q h1]
      simp only [ρ', if_pos h2]
      have := hadv.old q (by show q < chs.length; omega)
      rw [this]
      have hb : Nat.ble 1000 (renN m q) = false := by rw [← hm1' q h1]; exact (hq q hq').2.1
      simp only [renρ, hb]
    · rw [hm2' q h1 hq']
      simp only [ρ']
      rw [if_neg (by omega)]
      congr 1; omega
  have hρo : ∀ i, i < ch.length → ρ' i = ρ i := fun i hi => by simp only [ρ', if_pos hi]
  have hrρ : ∀ q, q < chs'.length → renρ ρ' m' q = ρ0 q := fun q hq' => by
    simp only [renρ, (hq q hq').2.1]; exact hρq q hq'
  have hden : ∀ s, svOk chs' s → den ρ' (ren m' s) = den ρ0 s := fun s hs => by rw [← den_ren]; exact den_congr hrρ s hs
  have hdenL : ∀ l, svOkL chs' l → denL ρ' (renL m' l) = denL ρ0 l := fun l hs => by rw [← denL_ren]; exact denL_congr hrρ l hs
  -- who owns what
  have ownq : ∀ q, q < chs'.length → ∀ b, ownBlk (chGet ch2 (renN m' q)) (ρ' (renN m' q)) = some b → ownBlk (chGet chs' q) (ρ0 q) = some b := fun q hq' b e => by
    rw [(hq q hq').2.2, ownBlk_renC, hρq q hq'] at e; exact e
  have own0 : ∀ q, q < chs'.length → ∀ b, ownBlk (chGet chs' q) (ρ0 q) = some b → w.heap.size ≤ b ∨ ∃ j, j < m.length ∧ ownBlk (chGet ch (renN m j)) (ρ (renN m j)) = some b := fun q hq' b e => by
    rcases hadv.ownf q b (by rw [hch0]; exact hq') (by rw [hch0]; exact e) with h1 | ⟨j, hj, h1⟩
    · exact .inl h1
    · have hj : j < chs.length := hj
      obtain ⟨_, _, o1⟩ := hemb.own (ρ := ρ) j hj b h1
      exact .inr ⟨j, by omega, o1⟩
  have keep : ∀ b, b < w.heap.size → (∀ i, i < m.length → ownBlk (chGet ch (renN m i)) (ρ (renN m i)) ≠ some b) → w'.heap[b]? = w.heap[b]? := fun b hb hno => hadv.frame b hb (fun i hi e => by
    have hi : i < chs.length := hi
    obtain ⟨_, _, o1⟩ := hemb.own (ρ := ρ) i hi b e
    exact hno i (by omega) o1)
  have keepS : ∀ b, S b → w'.heap[b]? = w.heap[b]? := fun b hb => keep b (hm.lt b hb) (fun i hi e => hm.out _ b (hmlt i hi) e hb)
  have keepO : ∀ i b, i < ch.length → (∀ q, q < m.length → renN m q ≠ i) → ownBlk (chGet ch i) (ρ i) = some b → w'.heap[b]? = w.heap[b]? := fun i b hi hno e => keep b (ownBlk_lt (hm.ok i hi) e) (fun q hq' e2 => hm.sep i (renN m q) b hi (hmlt q hq') (fun e3 => hno q hq' e3.symm) e e2)
  have s0 : ∀ b, S0 b → S b ∨ w.heap.size ≤ b ∨ ∃ j, j < m.length ∧ ownBlk (chGet ch (renN m j)) (ρ (renN m j)) = some b := fun b hb => by
    rcases hadv.grow b hb with h1 | h1 | ⟨j, hj, h1⟩
    · exact .inl h1
    · exact .inr (.inl h1)
    · have hj : j < chs.length := hj
      obtain ⟨_, _, o1⟩ := hemb.own (ρ := ρ) j hj b h1
      exact .inr (.inr ⟨j, by omega, o1⟩)
  have hS0 : ∀ b, S b → S0 b := hadv.sub
  have hok' := okCs_get chs' hok
  have mem2 : MemOk ⟨n, env, ch2, bs, dropL nats ch2.length⟩ ρ' S0 w' := by
    refine ⟨fun i hi => ?_, fun i => ?_, fun i j b hi hj hij e1 e2 => ?_, fun i b hi e => ?_, hm1.lt, fun i => ?_⟩
    · simp only at hi ⊢
      rcases hcase i hi with ⟨q, hq', rfl⟩ | ⟨h1, h2, h3⟩
      · rw [(hq q hq').2.2, hρq q hq']
        have hokq := hm1.ok q hq'
        have hcl := hm1.cells q
        have hoc := hok' q
        simp only at hokq hcl
        revert hokq hcl hoc
        cases chGet chs' q with
        | bx t cells => rintro ⟨b, hb, hg⟩ hcl _; have hd := hdenL _ hcl; simp only [cellsIn] at hd; exact ⟨b, hb, by rw [hd]; exact hg⟩
        | raw t n sz cells => rintro ⟨b, hb, hg⟩ hcl _; have hd := hdenL _ hcl; simp only [cellsIn] at hd; exact ⟨b, hb, by rw [hd]; exact hg⟩
        | rd => intro h _ _; exact h
        | own => intro h _ _; exact h
        | cnd => intro _ _ h; cases h
        | yk => intro _ _ h; cases h
        | dead => intro _ _ _; trivial
        | glb => intro h _ _; exact h
        | ob => intro h _ _; exact h
        | rp L cells => intro h _ hL; cases L with
          | nil => exact fun _ => h trivial
          | cons => cases hL
      · rw [h3, hρo i h1]
        have hci := ChunkOk.mono hS0 keepS (fun b e => keepO i b h1 h2 e) (hm.ok i h1)
        exact ChunkOk.cong hρo (hm.cells i) hci
    · simp only
      by_cases hi : i < ch2.length
      · rcases hcase i hi with ⟨q, hq', rfl⟩ | ⟨h1, h2, h3⟩
        · rw [(hq q hq').2.2]
          have hcl := hm1.cells q
          simp only at hcl
          revert hcl
          cases chGet chs' q with
          | bx t cells => intro hcl; exact svOkL_ren hq _ hcl
          | raw t n sz cells => intro hcl; exact svOkL_ren hq _ hcl
          | _ => intro _; simp [renC, cellsIn, svOkL]
        · rw [h3]
          refine svOkL_rel ⟨by show ch.length ≤ ch2.length; omega, fun id hid n' hn' => ?_⟩ _ (hm.cells i)
          have hid : id < ch.length := hid
          rcases hcase id (by omega) with ⟨q, hq', rfl⟩ | ⟨_, _, e3⟩
          · have hqm : q < m.length := by
              rcases Nat.lt_or_ge q m.length with h | h
              · exact h
              · rw [hm2' q h hq'] at hid; omega
            rw [(hq q hq').2.2, lenOf_renC] at hn'
            rw [(hq q hq').2.2, szOf_renC, hm1' q hqm]
            obtain ⟨n0, e1, e2, e4⟩ := hadv.rel.2 q (by show q < chs.length; omega) n' (by rw [hch0]; exact hn')
            rw [hch0] at e4
            simp only at e1 e4
            rcases (chsLe_get _ _ hle).2 q (by omega) with ⟨hb, _⟩ | ⟨_, _, hle1⟩
            · rw [← hm1' q hqm, (hq q hq').2.1] at hb; cases hb
            · simp only at hle1
              revert hle1 e1 e4
              cases chGet chs q with
              | own => intro e1 e4 hle1; obtain ⟨g1, g2⟩ := rawOwn_len hle1; rw [g1, g2]; exact ⟨n0, e1, e2, e4⟩
              | rd => intro e1 e4 hle1; rw [show chGet ch (renN m q) = _ from hle1]; exact ⟨n0, e1, e2, e4⟩
              | raw t n sz cells =>
                intro e1 e4 hle1
                simp only [chunkLe] at hle1
                split at hle1
                · rename_i hc _
                  obtain ⟨_, g2, g3, _⟩ := hle1
                  rw [hc]
                  subst g2 g3
                  exact ⟨n0, e1, e2, e4⟩
                · exact hle1.elim
              | cnd => intro _ _ h; exact h.elim
              | _ => intro e1; simp [lenOf] at e1
          · rw [e3] at hn' ⊢; exact ⟨n', hn', Nat.le_refl _, rfl⟩
      · rw [chGet_out _ _ (by omega)]; simp [cellsIn, svOkL]
    · simp only at hi hj e1 e2
      rcases hcase i hi with ⟨q, hq', rfl⟩ | ⟨h1, h2, h3⟩ <;> rcases hcase j hj with ⟨q2, hq2, rfl⟩ | ⟨g1, g2, g3⟩
      · exact hm1.sep q q2 b hq' hq2 (fun e => hij (by rw [e])) (ownq q hq' b e1) (ownq q2 hq2 b e2)
      · rw [g3, hρo j g1] at e2
        rcases own0 q hq' b (ownq q hq' b e1) with o1 | ⟨p, hp, o1⟩
        · have := ownBlk_lt (hm.ok j g1) e2; omega
        · exact hm.sep (renN m p) j b (hmlt p hp) g1 (g2 p hp) o1 e2
      · rw [h3, hρo i h1] at e1
        rcases own0 q2 hq2 b (ownq q2 hq2 b e2) with o1 | ⟨p, hp, o1⟩
        · have := ownBlk_lt (hm.ok i h1) e1; omega
        · exact hm.sep (renN m p) i b (hmlt p hp) h1 (h2 p hp) o1 e1
      · rw [h3, hρo i h1] at e1
        rw [g3, hρo j g1] at e2
        exact hm.sep i j b h1 g1 hij e1 e2
    · simp only at hi e
      rcases hcase i hi with ⟨q, hq', rfl⟩ | ⟨h1, h2, h3⟩
      · exact hm1.out q b hq' (ownq q hq' b e)
      · rw [h3, hρo i h1] at e
        intro hb
        rcases s0 b hb with o1 | o1 | ⟨p, hp, o1⟩
        · exact hm.out i b h1 e o1
        · have := ownBlk_lt (hm.ok i h1) e; omega
        · exact hm.sep (renN m p) i b (hmlt p hp) h1 (h2 p hp) o1 e
    · simp only
      by_cases hi : i < ch2.length
      · rcases hcase i hi with ⟨q, hq', rfl⟩ | ⟨h1, h2, h3⟩
        · rw [(hq q hq').2.2]
          have hoc := hok' q
          revert hoc
          cases chGet chs' q with
          | cnd => intro h; cases h
          | rp L cells => intro hL; cases L with
            | nil => intro p hp; simp [renC, condsOf] at hp
            | cons => cases hL
          | _ => intro _ p hp; simp [renC, condsOf] at hp
        · rw [h3]; exact hm.ccl i
      · rw [chGet_out _ _ (by omega)]; intro p hp; simp [condsOf] at hp
  refine ⟨⟨n, env, ch2, bs, dropL nats ch2.length⟩, ren m' s, ρ', S0, ?_, ⟨rfl, rfl, rfl, ⟨by show ch.length ≤ ch2.length; omega, fun id hid n' hn' => ?_⟩, hρo, mem2, hS0, fun b hb hno => keep b hb (fun i hi => hno _ (hmlt i hi)), fun i b hi e => ?_, fun b hb => ?_, fun i l go k e => ?_, hadv.size, hadv.os, hadv.tape, hadv.output⟩, svOk_ren hq _ hs, h⟩
  · exact hden s hs
  · have hid : id < ch.length := hid
    simp only at hn' ⊢
    rcases hcase id (by omega) with ⟨q, hq', rfl⟩ | ⟨_, _, e3⟩
    · have hqm : q < m.length := by
        rcases Nat.lt_or_ge q m.length with h | h
        · exact h
        · rw [hm2' q h hq'] at hid; omega
      rw [(hq q hq').2.2, lenOf_renC] at hn'
      rw [(hq q hq').2.2, szOf_renC, hm1' q hqm]
      obtain ⟨n0, e1, e2, e4⟩ := hadv.rel.2 q (by show q < chs.length; omega) n' (by rw [hch0]; exact hn')
      rw [hch0] at e4
      simp only at e1 e4
      rcases (chsLe_get _ _ hle).2 q (by omega) with ⟨hb, _⟩ | ⟨_, _, hle1⟩
      · rw [← hm1' q hqm, (hq q hq').2.1] at hb; cases hb
      · simp only at hle1
        revert hle1 e1 e4
        cases chGet chs q with
        | own => intro e1 e4 hle1; obtain ⟨g1, g2⟩ := rawOwn_len hle1; rw [g1, g2]; exact ⟨n0, e1, e2, e4⟩
        | rd => intro e1 e4 hle1; rw [show chGet ch (renN m q) = _ from hle1]; exact ⟨n0, e1, e2, e4⟩
        | raw t n sz cells =>
          intro e1 e4 hle1
          simp only [chunkLe] at hle1
          split at hle1
          · rename_i hc _
            obtain ⟨_, g2, g3, _⟩ := hle1
            rw [hc]
            subst g2 g3
            exact ⟨n0, e1, e2, e4⟩
          · exact hle1.elim
        | cnd => intro _ _ h; exact h.elim
        | _ => intro e1; simp [lenOf] at e1
    · rw [e3] at hn' ⊢; exact ⟨n', hn', Nat.le_refl _, rfl⟩
  · simp only at hi e
    rcases hcase i hi with ⟨q, hq', rfl⟩ | ⟨h1, h2, h3⟩
    · rcases own0 q hq' b (ownq q hq' b e) with o1 | ⟨p, hp, o1⟩
      · exact .inl o1
      · exact .inr ⟨renN m p, hmlt p hp, o1⟩
    · rw [h3, hρo i h1] at e; exact .inr ⟨i, h1, e⟩
  · rcases s0 b hb with o1 | o1 | ⟨p, hp, o1⟩
    · exact .inl o1
    · exact .inr (.inl o1)
    · exact .inr (.inr ⟨renN m p, hmlt p hp, o1⟩)
  · simp only at e ⊢
    by_cases hi : i < ch2.length
    · rcases hcase i hi with ⟨q, hq', rfl⟩ | ⟨h1, h2, h3⟩
      · rw [(hq q hq').2.2] at e
        have := hok' q
        rw [← okC_renC m', e] at this; cases this
      · rw [← h3]; exact e
    · rw [chGet_out _ _ (by omega)] at e; cases e

theorem lcall_sub {P : Program} {st : St} {f : Nat} {args : List SV} {K : St → SV → Prop} {Kp : List PanicEntry → St → Prop} (m : List Nat) {chs chs' : List Chunk} {svs : List SV} {r : SV}
    (hc : LCall P ⟨0, [], chs, [], []⟩ f svs (fun st' s => st'.ch = chs' ∧ s = r)) (hargs : args = renL m svs) (hnd : nodupN m = true) (hlt : allLt st.ch.length m = true) (hok : okCs chs' = true) (hsz : Nat.blt (st.ch.length + chs'.length) 1000 = true)
    (hle : chsLe st.ch m chs m chs) (h : subSt st m chs' (fun st' m' => K st' (ren m' r))) : LCall P st f args K Kp := by
  intro ρ S w hm
  have hemb : Emb st.ch m chs := ⟨hnd, hle⟩
  have hm0 := hemb.mem hm 0 [] []
  rw [hargs, ← denL_ren]
  refine (hc (renρ ρ m) S w hm0).mono fun e w' hc2 => ?_
  rcases hc2 with ⟨st0, s, ρ0, S0, he, hadv, hs, hch0, hsr⟩ | ⟨_, _, _, _, _, _, h⟩
  · subst hsr
    obtain ⟨st', s', ρ', S', h1, h2, h3, h4⟩ := sub_core m hm hadv hch0 hs hnd hlt hok hsz hle h
    exact .inl ⟨st', s', ρ', S', by rw [he, h1], h2, h3, h4⟩
  · exact h.elim

/-- the same, of a call that may end in one way or another -/
theorem lcall_subP {P : Program} {st : St} {f : Nat} {args : List SV} {K : St → SV → Prop} {Kp : List PanicEntry → St → Prop} (m : List Nat) {chs chs1 chs2 : List Chunk} {svs : List SV} {r : SV} {A B : Prop} {pc : List PanicEntry}
    (hc : LCall P ⟨0, [], chs, [], []⟩ f svs (fun st' s => A ∧ st'.ch = chs1 ∧ s = r) (fun pc' st' => B ∧ st'.ch = chs2 ∧ pc' = pc)) (hargs : args = renL m svs) (hnd : nodupN m = true) (hlt : allLt st.ch.length m = true) (hok1 : okCs chs1 = true) (hok2 : okCs chs2 = true)
    (hsz1 : Nat.blt (st.ch.length + chs1.length) 1000 = true) (hsz2 : Nat.blt (st.ch.length + chs2.length) 1000 = true) (hle : chsLe st.ch m chs m chs) (h1 : A → subSt st m chs1 (fun st' m' => K st' (ren m' r))) (h2 : B → subSt st m chs2 (fun st' _ => Kp pc st')) : LCall P st f args K Kp := by
  intro ρ S w hm
  have hemb : Emb st.ch m chs := ⟨hnd, hle⟩
  have hm0 := hemb.mem hm 0 [] []
  rw [hargs, ← denL_ren]
  refine (hc (renρ ρ m) S w hm0).mono fun e w' hc2 => ?_
  rcases hc2 with ⟨st0, s, ρ0, S0, he, hadv, hs, hA, hch0, hsr⟩ | ⟨pc', st0, ρ0, S0, he, hadv, hB, hch0, hpc⟩
  · subst hsr
    obtain ⟨st', s', ρ', S', g1, g2, g3, g4⟩ := sub_core m hm hadv hch0 hs hnd hlt hok1 hsz1 hle (h1 hA)
    exact .inl ⟨st', s', ρ', S', by rw [he, g1], g2, g3, g4⟩
  · obtain ⟨st', s', ρ', S', g1, g2, g3, g4⟩ := sub_core (s := .v undef) (K := fun st' _ => Kp pc st') m hm hadv hch0 (by simp [svOk]) hnd hlt hok2 hsz2 hle (h2 hB)
    exact .inr ⟨pc', st', ρ', S', he, g2, by rw [hpc]; exact g4⟩

/-- slices of one's own are from now on only read: ahead of a call that reads them -/
theorem lcall_frz {P : Program} {st : St} {f : Nat} {args : List SV} {K : St → SV → Prop} {Kp : List PanicEntry → St → Prop} (l : List SV) (hl : idsOkL st.ch l = true)
    (h : frzK l st (fun st1 => LCall P st1 f args K Kp)) : LCall P st f args K Kp := by
  intro ρ S w hm
  obtain ⟨st1, S1, h1, hadv⟩ := frz_sound l st S hm (idsOkL_svOk l hl) h
  refine (h1 ρ S1 w hadv.mem).mono fun e w' hc => ?_
  rcases hc with ⟨st', s, ρ', S', he, hadv', hs, hK⟩ | ⟨ch, st', ρ', S', he, hadv', hK⟩
  · exact .inl ⟨st', s, ρ', S', he, hadv.trans hadv', hs, hK⟩
  · exact .inr ⟨ch, st', ρ', S', he, hadv.trans hadv', hK⟩
theorem mcall_frz {P : Program} {st : St} {f : Nat} {args : List SV} {K : St → SV → Prop} {Kp : List PanicEntry → St → Prop} (l : List SV) (hl : idsOkL st.ch l = true)
    (h : frzK l st (fun st1 => MCall P st1 f args K Kp)) : MCall P st f args K Kp := by
  intro ρ S w hm
  obtain ⟨st1, S1, h1, hadv⟩ := frz_sound l st S hm (idsOkL_svOk l hl) h
  refine (h1 ρ S1 w hadv.mem).mono fun e w' hc => ?_
  rcases hc with ⟨st', s, ρ', S', he, hadv', hs, hb, hK⟩ | ⟨ch, st', ρ', S', he, hadv', hb, hK⟩
  · exact .inl ⟨st', s, ρ', S', he, hadv.trans hadv', hs, hb, hK⟩
  · exact .inr ⟨ch, st', ρ', S', he, hadv.trans hadv', hb, hK⟩
end Go.Eng

/-! part Snd23 -/
namespace Go.Eng
open Go.RowKit
open Classical

/-! ### functions with deferred calls: the calls stand one behind another, each a statement of the body's own -/
structure DefR where
  f : Nat
  args : List SV
  caps : List SV

def realD (ρ : Nat → Value) (d : DefR) : Deferred := { target := .fn (.func d.f) (denL ρ d.caps).toArray, args := (denL ρ d.args).toArray }

/-- a deferred call, on the way out -/
def DCall (P : Program) (st : St) (f : Nat) (args : List SV) (u : FrameMode) (K : FrameMode → St → Prop) : Prop :=
  ∀ ρ S w, MemOk st ρ S w → CallsDIn Fence.wide 0 P f (denL ρ args).toArray u w fun e u' w' =>
    ∃ st' ρ' S', Adv st st' ρ ρ' S S' w w' ∧ u' ≠ .run ∧ match e with
      | .returned _ => K (settle u') st'
      | .panicked pc => K (raised u' pc) st'
      | .outgrown => False

def leaveK (cf : Cfg) (cx : Ctx) (res : List ResultVar) (R : Ending → World → Prop) : List DefR → FrameMode → St → Prop
  | [], u, st => (match u with
    | .returning => (match resSVs cf.tt st res with
      | some l => ∀ ρ S w', Inv cx st ρ S w' → R (.returned (retVal ρ l)) w'
      | none => False)
    | .panicking pc => ∀ ρ S w', Inv cx st ρ S w' → R (.panicked pc) w'
    | .run => False)
  | d :: ds, u, st => hasN cf.fns d.f = true ∧ DCall cf.P st d.f (d.args ++ d.caps) u (fun u' st' => leaveK cf cx res R ds u' st')

def retKD (cf : Cfg) (cx : Ctx) (res : List ResultVar) (R : Ending → World → Prop) (ds : List DefR) (e : Exit) (st : St) : Prop :=
  match e with
  | .normal | .ret => leaveK cf cx res R ds .returning st
  | .panic pc => leaveK cf cx res R ds (.panicking pc) st
  | _ => False

/-- the deferred call of a statement -/
def defOf (cf : Cfg) (st : St) : Code → Option DefR
  | .region _ ops false => (match ops.toList with
    | [o] => (match o.guard, o.dst, o.op with
      | none, none, .defer ⟨.value (.func f), args, _⟩ => (match hasN cf.fns f, getVs st [] args.toList with | true, some l => some ⟨f, l, []⟩ | _, _ => none)
      | none, none, .defer ⟨.value (.tmp t), args, _⟩ => (match getV st [] (.tmp t), getVs st [] args.toList with
        | some (.fn f caps), some l => (match hasN cf.fns f with | true => some ⟨f, l, caps⟩ | false => none)
        | _, _ => none)
      | _, _, _ => none)
    | _ => none)
  | _ => none
/-- a closure made and deferred at once -/
def defOf2 (cf : Cfg) (st : St) : Code → Option (DefR × Nat × SV)
  | .region _ ops false => (match ops.toList with
    | [o1, o2] => (match o1.guard, o1.dst, o1.op, o2.guard, o2.dst, o2.op with
      | none, some t, .makeFunc (.func f) first caps, none, none, .defer ⟨.value (.tmp t'), args, _⟩ => (match first.toList, args.toList, getVs st [] caps.toList, Nat.beq t t', hasN cf.fns f, Nat.blt t st.n with
        | [], [], some l, true, true, true => some (⟨f, [], l⟩, t, .fn f l)
        | _, _, _, _, _, _ => none)
      | _, _, _, _, _, _ => none)
    | _ => none)
  | _ => none
def isDef : Code → Bool
  | .region _ ops false => (match ops.toList with
    | [o] => (match o.op with | .defer _ => true | _ => false)
    | [_, o] => (match o.op with | .defer _ => true | _ => false)
    | _ => false)
  | _ => false
def hasDef : Code → Bool
  | .seq x y => (match isDef x with | true => true | false => hasDef y)
  | _ => false

/-- the mark that no range over a function has been gone over is taken away -/
def dropYk : List Chunk → List Chunk
  | [] => []
  | c :: r => (match c with | .yk _ _ _ => .dead | c => c) :: dropYk r
def dropYkK : List Chunk → (List Chunk → Prop) → Prop
  | [], K => K []
  | c :: r, K => match c with
    | .yk _ _ _ => dropYkK r (fun l => K (.dead :: l))
    | c => dropYkK r (fun l => K (c :: l))
theorem dropYkK_eq : ∀ (l : List Chunk) (K : List Chunk → Prop), dropYkK l K = K (dropYk l)
  | [], _ => rfl
  | c :: r, K => by cases c <;> simp only [dropYkK, dropYk, dropYkK_eq r]

def hasYk : List Chunk → Bool
  | [] => false
  | c :: r => (match c with | .yk _ _ _ => true | _ => hasYk r)
theorem hasYk_get : ∀ {l : List Chunk}, hasYk l = true → ∃ id a b c, chGet l id = .yk a b c
  | [], h => by simp [hasYk] at h
  | c :: r, h => by
    cases c with
    | yk a b k => exact ⟨0, a, b, k, rfl⟩
    | _ => (obtain ⟨id, a, b, k, e⟩ := hasYk_get (l := r) (by simpa [hasYk] using h); exact ⟨id + 1, a, b, k, e⟩)

def execD (cf : Cfg) (k : Nat) : Code → St → List DefR → (List DefR → Exit → St → Prop) → Prop
  | .seq x y, st, ds, K => (match hasDef (.seq x y) with
    | false => (match st with | ⟨n, env, ch, bs, ids⟩ => dropYkK ch (fun ch' => exec cf k (.seq x y) ⟨n, env, ch', bs, ids⟩ (K ds)))
    | true => (match isDef x with
      | true => (match defOf cf st x with
        | some d => (match Nat.ble st.ch.length 300, hasYk st.ch with | true, true => execD cf st.ch.length y st (d :: ds) K | _, _ => False)
        | none => (match defOf2 cf st x with
          | some (d, t, s) => (match Nat.ble st.ch.length 300, hasYk st.ch with | true, true => (match st with | ⟨n, env, ch, bs, ids⟩ => execD cf ch.length y ⟨n, ⟨t, [], s⟩ :: env, ch, bs, ids⟩ (d :: ds) K) | _, _ => False)
          | none => False))
      | false => exec cf k x st (fun e st' => match e with | .normal => execD cf k y st' ds K | e => K ds e st')))
  | c, st, ds, K => (match st with | ⟨n, env, ch, bs, ids⟩ => dropYkK ch (fun ch' => exec cf k c ⟨n, env, ch', bs, ids⟩ (K ds)))

theorem dropYk_len : ∀ l, (dropYk l).length = l.length
  | [] => rfl
  | c :: r => by simp [dropYk, dropYk_len r]
theorem chGet_dropYk : ∀ (l : List Chunk) (id : Nat), chGet (dropYk l) id = (match chGet l id with | .yk _ _ _ => .dead | c => c)
  | [], id => by cases id <;> rfl
  | c :: r, 0 => by cases c <;> rfl
  | c :: r, id + 1 => by simp only [dropYk, chGet]; exact chGet_dropYk r id

section
variable {cx : Ctx} {cf : Cfg}

theorem svOk_dropYk_lt {l : List Chunk} : ChRel l (dropYk l) := ⟨by rw [dropYk_len]; exact Nat.le_refl _, fun id hid n hn => by
  rw [chGet_dropYk] at hn ⊢
  split at hn
  · simp [lenOf] at hn
  · exact ⟨n, hn, Nat.le_refl _, rfl⟩⟩

theorem Sat.dropYk {st : St} {a : Act} {w : World} (h : Sat cx st a w) : Sat cx ⟨st.n, st.env, Go.Eng.dropYk st.ch, st.bs, st.ids⟩ a w := by
  obtain ⟨ρ, S, he, hbs, hi, hd⟩ := h
  have hown : ∀ i v, ownBlk (chGet (Go.Eng.dropYk st.ch) i) v = ownBlk (chGet st.ch i) v := fun i v => by
    rw [chGet_dropYk]; split <;> first | rfl | (rename_i e; rw [e]; rfl)
  have hny : ∀ i l go n, chGet (Go.Eng.dropYk st.ch) i ≠ .yk l go n := fun i l go n e => by
    rw [chGet_dropYk] at e
    split at e
    · cases e
    · rename_i h; exact h _ _ _ e
  refine ⟨ρ, S, fun ops => (he ops).rel rfl rfl rfl svOk_dropYk_lt (fun _ _ => rfl), hbs, ⟨⟨fun id hid => ?_, fun id => ?_, fun i j b hi' hj hij h1 => ?_, fun i b hi' h1 => ?_, hi.mem.lt, fun id => ?_⟩, fun b hb => ?_, hi.size, hi.os, hi.tape, hi.output, by rw [dropYk_len]; exact hi.kle, hi.anch, fun id l go n e => absurd e (hny id l go n), fun p q lp gp np lq gq nq e1 _ => absurd e1 (hny p lp gp np), hi.sf⟩, ?_⟩
  · rw [dropYk_len] at hid
    have := hi.mem.ok id hid
    show ChunkOk st.bs S w ρ (chGet (Go.Eng.dropYk st.ch) id) (ρ id)
    rw [chGet_dropYk]
    split
    · trivial
    · exact this
  · show svOkL (Go.Eng.dropYk st.ch) (cellsIn (chGet (Go.Eng.dropYk st.ch) id))
    refine svOkL_rel svOk_dropYk_lt _ ?_
    rw [chGet_dropYk]
    split
    · simp [cellsIn, svOkL]
    · exact hi.mem.cells id
  · rw [dropYk_len] at hi' hj
    simp only [hown] at h1 ⊢
    exact hi.mem.sep i j b hi' hj hij h1
  · rw [dropYk_len] at hi'
    simp only [hown] at h1
    exact hi.mem.out i b hi' h1
  · show closed st.bs (condsOf (chGet (Go.Eng.dropYk st.ch) id))
    rw [chGet_dropYk]
    split
    · intro p hp; simp [condsOf] at hp
    · exact hi.mem.ccl id
  · obtain ⟨h1, h2, h3⟩ := hi.frm b hb
    exact ⟨h1, h2, fun i hi' => by simp only [hown]; exact h3 i (by simpa [dropYk_len] using hi')⟩
  · obtain ⟨Ds, h1, h2, h3, h4⟩ := hd
    exact ⟨Ds, h1, h2, fun _ => hny, fun D hD => ⟨(h4 D hD).1, (h4 D hD).2.1, (h4 D hD).2.2.1, fun i hi' => by simp only [hown]; exact (h4 D hD).2.2.2 i (by simpa [dropYk_len] using hi')⟩⟩

/-- a later anchor of the same walk -/
structure Later (cx cx' : Ctx) : Prop where
  wE : cx'.wE = cx.wE
  F : cx'.F = cx.F
  l : cx'.l = cx.l
  G : cx'.G = cx.G
  J : cx'.J = cx.J
  S0 : cx'.S0 = cx.S0
  k : cx.k ≤ cx'.k
  ρ0 : ∀ id, id < cx.k → cx'.ρ0 id = cx.ρ0 id
theorem Later.refl (cx : Ctx) : Later cx cx := ⟨rfl, rfl, rfl, rfl, rfl, rfl, Nat.le_refl _, fun _ _ => rfl⟩
theorem Later.trans {a b c : Ctx} (h : Later a b) (k : Later b c) : Later a c :=
  ⟨k.wE.trans h.wE, k.F.trans h.F, k.l.trans h.l, k.G.trans h.G, k.J.trans h.J, k.S0.trans h.S0, Nat.le_trans h.k k.k, fun id hid => (k.ρ0 id (Nat.lt_of_lt_of_le hid h.k)).trans (h.ρ0 id hid)⟩
theorem Inv.earlier {cx' : Ctx} (hl : Later cx cx') {st : St} {ρ : Nat → Value} {S : Nat → Prop} {w : World} (h : Inv cx' st ρ S w) : Inv cx st ρ S w :=
  ⟨h.mem, fun b hb => by have := h.frm b (by rw [hl.F]; exact hb); rw [hl.wE] at this; exact this, by have := h.size; rw [hl.wE] at this; exact this, by have := h.os; rw [hl.wE] at this; exact this, by have := h.tape; rw [hl.wE] at this; exact this, by have := h.output; rw [hl.wE] at this; exact this,
   Nat.le_trans hl.k h.kle, fun id hid => (h.anch id (Nat.lt_of_lt_of_le hid hl.k)).trans (hl.ρ0 id hid), fun id l go n e => by have := h.yl id l go n e; rw [hl.l, hl.J, hl.G] at this; exact this, h.one, fun b h1 h2 => by have := h.sf b (by rw [hl.F]; exact h1) h2; rw [hl.S0] at this; exact this⟩
theorem CxOk.later {cx' : Ctx} (hl : Later cx cx') (h : CxOk cf cx) : CxOk cf cx' :=
  ⟨by rw [hl.J]; exact h.stab, by rw [hl.F, hl.G]; exact h.FG, by rw [hl.J, hl.l, hl.G]; exact h.yield⟩

def dsOk (cx : Ctx) (ds : List DefR) : Prop := cx.dd = ds.map (realD cx.ρ0) ∧ ∀ d ∈ ds, (∀ (ρ : Nat → Value), (∀ id, id < cx.k → ρ id = cx.ρ0 id) → realD ρ d = realD cx.ρ0 d)

theorem svOkL_den {ch : List Chunk} {ρ ρ' : Nat → Value} (h : ∀ id, id < ch.length → ρ' id = ρ id) {l : List SV} (hs : svOkL ch l) : denL ρ' l = denL ρ l := denL_congr h l hs

theorem isDef_of {st : St} {x : Code} {d : DefR} (h : defOf cf st x = some d) : ∃ id o call f, x = .region id #[o] false ∧ o.guard = none ∧ o.dst = none ∧ o.op = .defer call ∧
    ((∃ args ts, call = ⟨.value (.func d.f), args, ts⟩ ∧ hasN cf.fns d.f = true ∧ getVs st [] args.toList = some d.args ∧ d.caps = [] ∧ f = d.f) ∨
     (∃ t args ts, call = ⟨.value (.tmp t), args, ts⟩ ∧ hasN cf.fns d.f = true ∧ getV st [] (.tmp t) = some (.fn d.f d.caps) ∧ getVs st [] args.toList = some d.args ∧ f = d.f)) := by
  unfold defOf at h
  split at h
  case h_2 => cases h
  rename_i id ops
  split at h
  case h_2 => cases h
  rename_i o hops
  have e : ops = #[o] := by apply Array.toList_inj.1; simpa using hops
  subst e
  split at h
  · rename_i f args ts hg hd ho
    split at h
    · rename_i l hf hl
      simp only [Option.some.injEq] at h
      subst h
      exact ⟨id, o, _, f, rfl, hg, hd, ho, .inl ⟨args, ts, rfl, hf, hl, rfl, rfl⟩⟩
    · cases h
  · rename_i t args ts hg hd ho
    split at h
    · rename_i f caps l hf hl
      split at h
      · rename_i hn
        simp only [Option.some.injEq] at h
        subst h
        exact ⟨id, o, _, f, rfl, hg, hd, ho, .inr ⟨t, args, ts, rfl, hn, hf, hl, rfl⟩⟩
      · cases h
    · cases h
  · cases h

theorem def_run {st : St} {ρ : Nat → Value} {a : Act} {w : World} {x : Code} {d : DefR} (he : EnvOk #[] st ρ a) (hbs : st.bs = []) (h : defOf cf st x = some d) {n : Nat} {Q : Exit → Act → World → Prop}
    (hQ : Q .normal { a with defers := realD ρ d :: a.defers } w) : x.wpIn (FF none) n cf.P Q a w := by
  obtain ⟨id, o, call, f, rfl, hg, hd, ho, hor⟩ := isDef_of h
  have hL : holds st.bs [] := by rw [hbs]; trivial
  have hexec : (execOp a.eval o).run cf.P w = .ok (.defer (realD ρ d)) w := by
    rcases hor with ⟨args, ts, rfl, hf, hl, hc, _⟩ | ⟨t, args, ts, rfl, hf, hv, hl, _⟩
    · obtain ⟨h1, _⟩ := getVs_sound he hL _ _ hl
      have hargs : args.map a.eval = (denL ρ d.args).toArray := by rw [← h1, ← Array.toList_map]
      simp [execOp, ho, resolve, Act.eval, Deferred.ofValue, hargs, realD, hc, denL]
    · obtain ⟨h1, _⟩ := getVs_sound he hL _ _ hl
      obtain ⟨h2, _⟩ := getV_sound he hL hv
      have hargs : args.map a.eval = (denL ρ d.args).toArray := by rw [← h1, ← Array.toList_map]
      simp only [den] at h2
      simp [execOp, ho, resolve, h2, Deferred.ofValue, hargs, realD]
  refine wpIn_region_list ?_
  simp only [wpListIn]
  have hw : Region.wanted o (yielded #[o] a.tmps) = true := by unfold Region.wanted; rw [hg]
  rw [if_pos hw]
  refine ⟨fun _ _ => trivial, ?_⟩
  rw [Oper.semAt_none, hexec]
  show Q .normal _ w
  rw [hd]
  exact hQ

theorem Sat.defer {st : St} {a : Act} {w : World} {x : Code} {d : DefR} {ds : List DefR} {id0 l0 n0 : Nat} {go0 : Bool} (hyk : chGet st.ch id0 = .yk l0 go0 n0) (hs : Sat cx st a w) (hds : dsOk cx ds) (h : defOf cf st x = some d) {n : Nat} {Q : Exit → Act → World → Prop}
    (hQ : ∀ cx' a', Later cx cx' → cx'.k = st.ch.length → dsOk cx' (d :: ds) → Sat cx' st a' w → Q .normal a' w) : x.wpIn (FF none) n cf.P Q a w := by
  obtain ⟨ρ, S, he, hbs, hi, Ds, h1, h2, h3, h4⟩ := hs
  have hnil : Ds = [] := by
    cases Ds with
    | nil => rfl
    | cons p q => exact absurd hyk (h3 (by simp) id0 l0 go0 n0)
  subst hnil
  simp only [List.map_nil, List.nil_append] at h1
  have hL : holds st.bs [] := by rw [hbs]; trivial
  have hsv : svOkL st.ch d.args ∧ svOkL st.ch d.caps := by
    obtain ⟨id, o, call, f, rfl, hg, hd, ho, hor⟩ := isDef_of h
    rcases hor with ⟨args, ts, rfl, hf, hl, hc, _⟩ | ⟨t, args, ts, rfl, hf, hv, hl, _⟩
    · exact ⟨(getVs_sound (he #[]) hL _ _ hl).2, by rw [hc]; simp [svOkL]⟩
    · exact ⟨(getVs_sound (he #[]) hL _ _ hl).2, by have := (getV_sound (he #[]) hL hv).2; simpa [svOk] using this⟩
  refine def_run (he #[]) hbs h ?_
  let cx' : Ctx := { cx with k := st.ch.length, ρ0 := ρ, dd := realD ρ d :: cx.dd }
  have hanch : ∀ id, id < cx.k → ρ id = cx.ρ0 id := hi.anch
  refine hQ cx' _ ⟨rfl, rfl, rfl, rfl, rfl, rfl, hi.kle, hanch⟩ rfl ⟨?_, fun d' hd' ρ' hρ' => ?_⟩ ⟨ρ, S, fun ops => ?_, hbs, ⟨hi.mem, hi.frm, hi.size, hi.os, hi.tape, hi.output, Nat.le_refl _, fun _ _ => rfl, hi.yl, hi.one, hi.sf⟩, [], ?_, List.nodup_nil, fun h => absurd rfl h, fun D hD => by simp at hD⟩
  · show realD ρ d :: cx.dd = realD ρ d :: ds.map (realD ρ)
    rw [hds.1]
    congr 1
    refine List.map_congr_left fun d' hd' => ?_
    exact (hds.2 d' hd' ρ hanch).symm
  · rcases List.mem_cons.1 hd' with rfl | hd'
    · show realD ρ' d' = realD ρ d'
      unfold realD
      rw [svOkL_den hρ' hsv.1, svOkL_den hρ' hsv.2]
    · show realD ρ' d' = realD ρ d'
      rw [hds.2 d' hd' ρ hanch]
      exact hds.2 d' hd' ρ' (fun id hid => (hρ' id (Nat.lt_of_lt_of_le hid hi.kle)).trans (hanch id hid))
  · exact (he ops).tmps rfl
  · show realD ρ d :: a.defers = [] ++ (realD ρ d :: cx.dd)
    rw [h1]; rfl

theorem def2_of {st : St} {x : Code} {d : DefR} {t : Nat} {s : SV} (h : defOf2 cf st x = some (d, t, s)) : ∃ id o1 o2 f caps ts l, x = .region id #[o1, o2] false ∧ o1.guard = none ∧ o1.dst = some t ∧ o1.op = .makeFunc (.func f) #[] caps ∧ o2.guard = none ∧ o2.dst = none ∧
    o2.op = .defer ⟨.value (.tmp t), #[], ts⟩ ∧ getVs st [] caps.toList = some l ∧ hasN cf.fns f = true ∧ t < st.n ∧ d = ⟨f, [], l⟩ ∧ s = .fn f l := by
  unfold defOf2 at h
  split at h
  case h_2 => cases h
  rename_i id ops
  split at h
  case h_2 => cases h
  rename_i o1 o2 hops
  have e : ops = #[o1, o2] := by apply Array.toList_inj.1; simpa using hops
  subst e
  split at h
  case h_2 => cases h
  rename_i t0 f first caps t' args ts g1 d1 p1 g2 d2 p2
  split at h
  case h_2 => cases h
  rename_i l hfi har hl hb hf hlt
  simp only [Option.some.injEq, Prod.mk.injEq] at h
  obtain ⟨rfl, rfl, rfl⟩ := h
  have hb := Nat.eq_of_beq_eq_true hb
  subst hb
  have hfi : first = #[] := by apply Array.toList_inj.1; simpa using hfi
  have har : args = #[] := by apply Array.toList_inj.1; simpa using har
  subst hfi har
  exact ⟨id, o1, o2, f, caps, ts, l, rfl, g1, d1, p1, g2, d2, p2, hl, hf, Nat.le_of_ble_eq_true hlt, rfl, rfl⟩

theorem Sat.defer2 {st : St} {a : Act} {w : World} {x : Code} {d : DefR} {t : Nat} {s : SV} {ds : List DefR} {id0 l0 n0 : Nat} {go0 : Bool} (hyk : chGet st.ch id0 = .yk l0 go0 n0) (hs : Sat cx st a w) (hds : dsOk cx ds) (h : defOf2 cf st x = some (d, t, s)) {n : Nat} {Q : Exit → Act → World → Prop}
    (hQ : ∀ cx' a', Later cx cx' → cx'.k = st.ch.length → dsOk cx' (d :: ds) → Sat cx' ⟨st.n, ⟨t, [], s⟩ :: st.env, st.ch, st.bs, st.ids⟩ a' w → Q .normal a' w) : x.wpIn (FF none) n cf.P Q a w := by
  obtain ⟨ρ, S, he, hbs, hi, Ds, h1, h2, h3, h4⟩ := hs
  have hnil : Ds = [] := by
    cases Ds with
    | nil => rfl
    | cons p q => exact absurd hyk (h3 (by simp) id0 l0 go0 n0)
  subst hnil
  simp only [List.map_nil, List.nil_append] at h1
  have hL : holds st.bs [] := by rw [hbs]; trivial
  obtain ⟨id, o1, o2, f, caps, ts, l, rfl, g1, d1, p1, g2, d2, p2, hl, hf, hlt, rfl, rfl⟩ := def2_of h
  obtain ⟨hv1, hsv⟩ := getVs_sound (he #[]) hL _ _ hl
  have hargs : caps.map a.eval = (denL ρ l).toArray := by rw [← hv1, ← Array.toList_map]
  have hex1 : (execOp a.eval o1).run cf.P w = .ok (.value (den ρ (.fn f l))) w := by simp [execOp, p1, Instr.makeFunc, hargs, den]
  have hput : EnvOk #[] ⟨st.n, ⟨t, [], .fn f l⟩ :: st.env, st.ch, [], []⟩ ρ (a.put (some t) (den ρ (.fn f l))) := by
    refine EnvOk.put1 ?_ hlt (by simpa [svOk] using hsv)
    have := he #[]
    obtain ⟨m, env, ch, bs, ids⟩ := st
    simp only at hbs
    subst hbs
    exact this.ids
  have hsz : t < a.tmps.size := by rw [(he #[]).size]; exact hlt
  have hev : (a.put (some t) (den ρ (.fn f l))).eval (.tmp t) = den ρ (.fn f l) := by
    have := put_get (a := a) (d := t) (v := den ρ (.fn f l)) hsz t
    rw [if_pos rfl] at this
    simp [Act.eval, this]
  have hex2 : (execOp (a.put (some t) (den ρ (.fn f l))).eval o2).run cf.P w = .ok (.defer (realD ρ ⟨f, [], l⟩)) w := by
    simp only [den] at hev
    simp [execOp, p2, resolve, hev, den, Deferred.ofValue, realD, denL]
  refine wpIn_region_list ?_
  simp only [wpListIn]
  have hw1 : Region.wanted o1 (yielded #[o1, o2] a.tmps) = true := by unfold Region.wanted; rw [g1]
  rw [if_pos hw1]
  refine ⟨fun _ _ => trivial, ?_⟩
  rw [Oper.semAt_none, hex1]
  simp only [Oper.uponIn, d1]
  have hw2 : Region.wanted o2 (yielded #[o1, o2] (a.put (some t) (den ρ (.fn f l))).tmps) = true := by unfold Region.wanted; rw [g2]
  rw [if_pos hw2]
  refine ⟨fun _ _ => trivial, ?_⟩
  rw [Oper.semAt_none, hex2]
  show Q .normal _ w
  rw [d2]
  let cx' : Ctx := { cx with k := st.ch.length, ρ0 := ρ, dd := realD ρ ⟨f, [], l⟩ :: cx.dd }
  have hanch : ∀ id, id < cx.k → ρ id = cx.ρ0 id := hi.anch
  refine hQ cx' _ ⟨rfl, rfl, rfl, rfl, rfl, rfl, hi.kle, hanch⟩ rfl ⟨?_, fun d' hd' ρ' hρ' => ?_⟩ ⟨ρ, S, fun ops => ?_, hbs, ⟨⟨hi.mem.ok, hi.mem.cells, hi.mem.sep, hi.mem.out, hi.mem.lt, hi.mem.ccl⟩, hi.frm, hi.size, hi.os, hi.tape, hi.output, Nat.le_refl _, fun _ _ => rfl, hi.yl, hi.one, hi.sf⟩, [], ?_, List.nodup_nil, fun h => absurd rfl h, fun D hD => by simp at hD⟩
  · show realD ρ ⟨f, [], l⟩ :: cx.dd = realD ρ ⟨f, [], l⟩ :: ds.map (realD ρ)
    rw [hds.1]
    congr 1
    refine List.map_congr_left fun d' hd' => ?_
    exact (hds.2 d' hd' ρ hanch).symm
  · rcases List.mem_cons.1 hd' with rfl | hd'
    · show realD ρ' ⟨f, [], l⟩ = realD ρ ⟨f, [], l⟩
      unfold realD
      rw [svOkL_den hρ' hsv]
      rfl
    · show realD ρ' d' = realD ρ d'
      rw [hds.2 d' hd' ρ hanch]
      exact hds.2 d' hd' ρ' (fun id hid => (hρ' id (Nat.lt_of_lt_of_le hid hi.kle)).trans (hanch id hid))
  · obtain ⟨m, env, ch, bs, ids⟩ := st
    simp only at hbs
    subst hbs
    exact (EnvOk.anyOps rfl hput).ids.tmps rfl
  · show realD ρ ⟨f, [], l⟩ :: (a.put (some t) (den ρ (.fn f l))).defers = [] ++ (realD ρ ⟨f, [], l⟩ :: cx.dd)
    rw [put_defers, h1]; rfl

theorem execD_sound (hcf : CfgOk cf) (hrd : cf.rd = false) : ∀ (c : Code) (cx : Ctx) (n : Nat) (st : St) (ds : List DefR) (K : List DefR → Exit → St → Prop) (Q : Exit → Act → World → Prop), CxOk cf cx → cx.k ≤ 300 → dsOk cx ds →
    (∀ cx' ds' e st' a w, Later cx cx' → dsOk cx' ds' → K ds' e st' → Sat cx' st' a w → Q e a w) →
    execD cf cx.k c st ds K → ∀ a w, Sat cx st a w → c.wpIn (FF none) n cf.P Q a w := by
  have plain : ∀ (c : Code) (cx : Ctx) (n : Nat) (st : St) (ds : List DefR) (K : List DefR → Exit → St → Prop) (Q : Exit → Act → World → Prop), CxOk cf cx → cx.k ≤ 300 → dsOk cx ds →
      (∀ cx' ds' e st' a w, Later cx cx' → dsOk cx' ds' → K ds' e st' → Sat cx' st' a w → Q e a w) →
      (match st with | ⟨n, env, ch, bs, ids⟩ => dropYkK ch (fun ch' => exec cf cx.k c ⟨n, env, ch', bs, ids⟩ (K ds))) → ∀ a w, Sat cx st a w → c.wpIn (FF none) n cf.P Q a w := by
    intro c cx n st ds K Q hcx hk hds hQ h a w hs
    have hs' := hs.dropYk
    obtain ⟨m, env, ch, bs, ids⟩ := st
    simp only [dropYkK_eq] at h
    exact exec_sound c cf cx none n _ _ Q hcf hcx hk (fun _ => rfl) h (fun e st' a w hK hs' => hQ cx ds e st' a w (Later.refl cx) hds hK hs') a w hs'
  intro c
  induction c with
  | seq x y ihx ihy =>
    intro cx n st ds K Q hcx hk hds hQ h a w hs
    simp only [execD] at h
    split at h
    · exact plain _ cx n st ds K Q hcx hk hds hQ h a w hs
    · refine wpIn_seq ?_
      split at h
      · split at h
        · rename_i d hd
          split at h
          · rename_i hle hyk
            obtain ⟨id0, l0, go0, n0, hyk⟩ := hasYk_get hyk
            refine Sat.defer hyk hs hds hd (fun cx' a' hl hk' hds' hs' => ?_)
            rw [← hk'] at h
            exact ihy cx' n st (d :: ds) K Q (hcx.later hl) (by rw [hk']; exact Nat.le_of_ble_eq_true hle) hds' (fun cx'' ds' e st' a w hl' => hQ cx'' ds' e st' a w (hl.trans hl')) h a' w hs'
          · exact h.elim
        · split at h
          · rename_i d t s hd
            split at h
            · rename_i hle hyk
              obtain ⟨id0, l0, go0, n0, hyk⟩ := hasYk_get hyk
              obtain ⟨m, env, ch, bs, ids⟩ := st
              refine Sat.defer2 hyk hs hds hd (fun cx' a' hl hk' hds' hs' => ?_)
              simp only at h hk'
              rw [← hk'] at h
              exact ihy cx' n _ (d :: ds) K Q (hcx.later hl) (by rw [hk']; exact Nat.le_of_ble_eq_true hle) hds' (fun cx'' ds' e st' a w hl' => hQ cx'' ds' e st' a w (hl.trans hl')) h a' w hs'
            · exact h.elim
          · exact h.elim
      · refine exec_sound x cf cx none n st _ _ hcf hcx hk (fun _ => rfl) h (fun e st' a' w' hK hs' => ?_) a w hs
        cases e with
        | normal => exact ihy cx n st' ds K Q hcx hk hds hQ hK a' w' hs'
        | _ => exact hQ cx ds _ st' a' w' (Later.refl cx) hds hK hs'
  | _ =>
    intro cx n st ds K Q hcx hk hds hQ h a w hs
    exact plain _ cx n st ds K Q hcx hk hds hQ h a w hs

/-- on the way out: the deferred calls -/
theorem leave_sound (hcf : CfgOk cf) {cx0 : Ctx} {res : Array ResultVar} {fn : Func} (hres : fn.results = res) {R : Ending → World → Prop} : ∀ (ds : List DefR) (cx : Ctx) (u : FrameMode) (st : St) (ρ : Nat → Value) (S : Nat → Prop) (w : World) (a : Act),
    (∀ go, Stab (cx.J go)) → Later cx0 cx → (∀ d ∈ ds, realD ρ d = realD cx.ρ0 d ∧ ∀ (ρ' : Nat → Value), (∀ id, id < cx.k → ρ' id = cx.ρ0 id) → realD ρ' d = realD cx.ρ0 d) → u ≠ .run → EnvOk #[] st ρ a → Inv cx st ρ S w → leaveK cf cx0 res.toList R ds u st →
    LeavesInM Fence.wide 0 cf.P fn a.tmps R (ds.map (realD cx.ρ0)) u w
  | [], cx, u, st, ρ, S, w, a, hst, hl, _, hu, he, hi, h => by
    simp only [leaveK] at h
    cases u with
    | run => exact absurd rfl hu
    | returning =>
      simp only at h
      split at h
      · rename_i l hr
        exact ⟨_, results_run hcf hi.mem he (by rw [hres]; exact hr), h ρ S w (hi.earlier hl)⟩
      · exact h.elim
    | panicking pc => exact h ρ S w (hi.earlier hl)
  | d :: ds, cx, u, st, ρ, S, w, a, hst, hl, hds, hu, he, hi, h => by
    obtain ⟨hn, hc⟩ := h
    obtain ⟨hd1, hd2⟩ := hds d (by simp)
    refine ⟨hu, .inr ⟨fun h => by simp [Fence.wide] at h, .func d.f, (denL cx.ρ0 d.caps).toArray, d.f, (denL ρ (d.args ++ d.caps)).toArray, rfl, ?_, fun _ _ => trivial, ?_⟩⟩
    · have hreal : (realD cx.ρ0 d).target = .fn (.func d.f) (denL ρ d.caps).toArray ∧ (realD cx.ρ0 d).args = (denL ρ d.args).toArray := by rw [← hd1]; exact ⟨rfl, rfl⟩
      have := hcf.fns d.f (hasN_mem hn) (denL ρ (d.args ++ d.caps)).toArray w
      rw [hreal.1, hreal.2]
      rw [denL_append] at this ⊢
      simp [invoke, this]
    · refine (hc ρ S w hi.mem).mono fun e u' w' ⟨st', ρ', S', hadv, hu', hK⟩ => ?_
      have hi' := hi.adv hst hadv
      have he' := he.rel hadv.n hadv.env hadv.bs hadv.rel hadv.old
      have hds' : ∀ d' ∈ ds, realD ρ' d' = realD cx.ρ0 d' ∧ ∀ (ρ'' : Nat → Value), (∀ id, id < cx.k → ρ'' id = cx.ρ0 id) → realD ρ'' d' = realD cx.ρ0 d' := fun d' hd' => ⟨(hds d' (by simp [hd'])).2 ρ' hi'.anch, (hds d' (by simp [hd'])).2⟩
      cases e with
      | returned v => exact leave_sound hcf hres ds cx _ st' ρ' S' w' a hst hl hds' (settle_ne hu') he' hi' hK
      | panicked pc => exact leave_sound hcf hres ds cx _ st' ρ' S' w' a hst hl hds' (raised_ne u' pc) he' hi' hK
      | outgrown => exact hK.elim
where
  settle_ne {u : FrameMode} (h : u ≠ .run) : settle u ≠ .run := by
    unfold settle
    split
    · split <;> simp
    · exact h
  raised_ne (u : FrameMode) (pc : List PanicEntry) : raised u pc ≠ .run := by
    unfold raised; split <;> simp
end

theorem leaves_marksL {P : Program} {fn : Func} {tmps : Array Value} {R : Ending → World → Prop} {u : FrameMode} (hu : u ≠ .run) (L : List Deferred) : ∀ (Ds : List Nat) (w : World), Ds.Nodup → (∀ D ∈ Ds, w.heap[D]? = some (.deferred (some []))) →
    (∀ w', w'.heap.size = w.heap.size → w'.os = w.os → w'.tape = w.tape → w'.output = w.output → (∀ b, b ∉ Ds → w'.heap[b]? = w.heap[b]?) → LeavesInM Fence.wide 0 P fn tmps R L u w') →
    LeavesInM Fence.wide 0 P fn tmps R ((Ds.map fun D => ({ target := .collected D, args := #[] } : Deferred)) ++ L) u w
  | [], w, _, _, h => h w rfl rfl rfl rfl (fun _ _ => rfl)
  | D :: Ds, w, hn, hD, h => by
    obtain ⟨hn1, hn2⟩ := List.nodup_cons.1 hn
    refine ⟨hu, .inl ⟨D, _, rfl, run_takeDeferred (hD D (by simp)), ?_⟩⟩
    refine leaves_marksL hu L Ds _ hn2 (fun D' hD' => ?_) (fun w' h1 h2 h3 h4 h5 => ?_)
    · exact (World.putObj_heap_other (r := D) (fun e => hn1 (by rw [← e]; exact hD'))).trans (hD D' (by simp [hD']))
    · refine h w' (by simpa using h1) h2 h3 h4 (fun b hb => ?_)
      simp only [List.mem_cons, not_or] at hb
      exact (h5 b hb.2).trans (World.putObj_heap_other hb.1)

theorem chGet_snoc_cases (chs : List Chunk) (c : Chunk) (i : Nat) : (i < chs.length ∧ chGet (snocL chs c) i = chGet chs i) ∨ (i = chs.length ∧ chGet (snocL chs c) i = c) ∨ chGet (snocL chs c) i = .dead := by
  rcases Nat.lt_trichotomy i chs.length with h | h | h
  · exact .inl ⟨h, chGet_snoc_old _ _ _ h⟩
  · subst h; exact .inr (.inl ⟨rfl, chGet_snoc_new _ _⟩)
  · exact .inr (.inr (chGet_out _ _ (by rw [snocL_length]; omega)))

theorem dcall_sub {P : Program} {st : St} {f : Nat} {args : List SV} {u u1 : FrameMode} {K : FrameMode → St → Prop} (m : List Nat) {chs chs' : List Chunk} {svs : List SV}
    (hc : DCall P ⟨0, [], chs, [], []⟩ f svs u (fun u' st' => st'.ch = chs' ∧ u' = u1)) (hargs : args = renL m svs) (hnd : nodupN m = true) (hlt : allLt st.ch.length m = true) (hok : okCs chs' = true) (hsz : Nat.blt (st.ch.length + chs'.length) 1000 = true)
    (hle : chsLe st.ch m chs m chs) (h : subSt st m chs' (fun st' _ => K u1 st')) : DCall P st f args u K := by
  intro ρ S w hm
  have hemb : Emb st.ch m chs := ⟨hnd, hle⟩
  have hm0 := hemb.mem hm 0 [] []
  rw [hargs, ← denL_ren]
  refine (hc (renρ ρ m) S w hm0).mono fun e u' w' ⟨st0, ρ0, S0, hadv, hu, hK⟩ => ?_
  have core : st0.ch = chs' → ∃ st' ρ' S', Adv st st' ρ ρ' S S' w w' ∧ K u1 st' := fun hch0 => by
    obtain ⟨st', s', ρ', S', g1, g2, g3, g4⟩ := sub_core (s := .v undef) (K := fun st' _ => K u1 st') m hm hadv hch0 (by simp [svOk]) hnd hlt hok hsz hle h
    exact ⟨st', ρ', S', g2, g4⟩
  cases e with
  | returned v => obtain ⟨st', ρ', S', g1, g2⟩ := core hK.1; exact ⟨st', ρ', S', g1, hu, by show K (settle u') st'; rw [hK.2]; exact g2⟩
  | panicked pc => obtain ⟨st', ρ', S', g1, g2⟩ := core hK.1; exact ⟨st', ρ', S', g1, hu, by show K (raised u' pc) st'; rw [hK.2]; exact g2⟩
  | outgrown => exact hK.elim

/-- a call of a function with deferred calls -/
theorem calls_execD {cf : Cfg} (hcf : CfgOk cf) {f : FuncId} {fn : Func} {c : Code} {args : Array Value} {ρ : Nat → Value} {w : World} {R : Ending → World → Prop} (hf : cf.P.funcs[f]? = some fn) (hb : fn.body = some c)
    (svs : List SV) (chs : List Chunk) (F : Nat → Prop) (hk : Nat.ble (chs.length + 1) 300 = true) (hn : Nat.ble svs.length fn.ntmps = true) (hargs : args = (denL ρ svs).toArray) (hsv : svOkL chs svs)
    (hm : MemOk ⟨fn.ntmps, entEnv svs nats, chs, [], dropL nats chs.length⟩ ρ F w)
    (h : execD cf (chs.length + 1) c ⟨fn.ntmps, entEnv svs nats, snocL chs (.yk 0 true 0), [], dropL nats (chs.length + 1)⟩ [] (retKD cf { wE := w, F := F, k := chs.length + 1, ρ0 := ρ, S0 := F } fn.results.toList R))
    (hrd : cf.rd = false := by rfl) (hy0 : cf.yN = 0 := by rfl) (hny : noYk chs = true := by rfl) : Calls cf.P f args w R := by
  have hn := Nat.le_of_ble_eq_true hn
  have hk := Nat.le_of_ble_eq_true hk
  let cx : Ctx := { wE := w, F := F, k := chs.length + 1, ρ0 := ρ, S0 := F }
  have hcx : CxOk cf cx := CxOk.triv hy0 (fun _ _ _ _ => rfl)
  have hlen : (snocL chs (.yk 0 true 0)).length = chs.length + 1 := snocL_length _ _
  have hup : upd ρ chs.length (ρ chs.length) = ρ := by
    funext i
    unfold upd
    split
    · rename_i e; rw [e]
    · rfl
  have hm1 : MemOk ⟨fn.ntmps, entEnv svs nats, snocL chs (.yk 0 true 0), [], dropL nats (chs.length + 1)⟩ ρ F w := by
    have := MemOk.addCh (st' := ⟨fn.ntmps, entEnv svs nats, snocL chs (.yk 0 true 0), [], dropL nats (chs.length + 1)⟩) (c := .yk 0 true 0) (v := ρ chs.length) hm rfl rfl trivial (by simp [cellsIn, svOkL]) (by intro p hp; simp [condsOf] at hp) (fun b hb' => by simp [ownBlk] at hb')
    rw [hup] at this
    exact this
  refine (callsIn_wide (n := 0)).1 (callsIn_of_wp_marks hf hb trivial ?_)
  refine execD_sound hcf hrd c cx 0 _ [] _ _ hcx hk ⟨rfl, fun d hd => by simp at hd⟩ (fun cx' ds' e st' a' w' hl hds hK hs => ?_) h _ _ ?_
  · obtain ⟨ρ', S', he, hbs, hinv, Ds, hdl, hnd, hny', hDs⟩ := hs
    have hst : ∀ go, Stab (cx'.J go) := by rw [hl.J]; exact hcx.stab
    have key : ∀ u, u ≠ .run → leaveK cf cx fn.results.toList R ds' u st' → LeavesInM Fence.wide 0 cf.P fn a'.tmps R a'.defers u w' := by
      intro u hu hK
      rw [hdl, hds.1]
      refine leaves_marksL hu _ Ds w' hnd (fun D hD => (hDs D hD).1) (fun w2 h1 h2 h3 h4 h5 => ?_)
      have hi2 := hinv.marks hst hny' hDs h1 h2 h3 h4 h5
      exact leave_sound hcf rfl ds' cx' u st' ρ' S' w2 a' hst hl (fun d hd => ⟨hds.2 d hd ρ' hinv.anch, hds.2 d hd⟩) hu (he #[]) hi2 hK
    cases e with
    | normal => exact key _ (by simp) hK
    | ret => exact key _ (by simp) hK
    | panic pc => exact key _ (by simp) hK
    | _ => exact hK.elim
  · refine ⟨ρ, F, fun ops => ⟨?_, ?_, ?_, ?_, fun e h => by simp at h, fun e h => by simp at h⟩, rfl, ⟨hm1, fun b hb => ⟨hm.lt b hb, rfl, fun i hi e => hm1.out i b hi e hb⟩, Nat.le_refl _, rfl, rfl, rfl, by rw [hlen]; exact Nat.le_refl _, fun _ _ => rfl, fun id l go n e => ?_, fun p q lp gp np lq gq nq e1 e2 => ?_, fun _ _ h => h⟩, ⟨[], rfl, List.nodup_nil, fun h => absurd rfl h, fun D hD => by simp at hD⟩⟩
    · subst hargs
      simp only [Array.size_append, List.size_toArray, denL_eq, List.length_map, Array.size_replicate]
      omega
    · intro d e hl hj
      obtain ⟨h1, _, h3⟩ := entEnv_look svs nats 0 (fun j i hj => by have := nats_get j i hj; omega) d e hl
      rw [h1, if_pos (show holds _ [] from trivial)]
      rw [Nat.sub_zero] at h3
      have hlt := (List.getElem?_eq_some_iff.1 h3).1
      subst hargs
      simp only
      rw [Array.getElem?_append_left (by simp [denL_eq]; exact hlt)]
      simp [denL_eq, h3]
    · intro d e hl _
      obtain ⟨h1, _, h3⟩ := entEnv_look svs nats 0 (fun j i hj => by have := nats_get j i hj; omega) d e hl
      exact svOk_ext (ChExt.snoc _ _) _ (svOkL_get _ _ _ hsv h3)
    · intro d e hl
      rw [(entEnv_look svs nats 0 (fun j i hj => by have := nats_get j i hj; omega) d e hl).1]
      intro p hp
      simp at hp
    · rcases chGet_snoc_cases chs (.yk 0 true 0) id with ⟨_, h1⟩ | ⟨_, h1⟩ | h1
      · rw [h1] at e; exact absurd e (noYk_get hny id l go n)
      · rw [h1] at e
        simp only [Chunk.yk.injEq] at e
        obtain ⟨rfl, rfl, rfl⟩ := e
        exact ⟨rfl, fun _ => False, trivial, fun b hb => hb.elim, fun b _ => .inr (fun h => h)⟩
      · rw [h1] at e; cases e
    · have idx : ∀ i li gi ni, chGet (snocL chs (.yk 0 true 0)) i = .yk li gi ni → i = chs.length := by
        intro i li gi ni g
        rcases chGet_snoc_cases chs (.yk 0 true 0) i with ⟨_, h1⟩ | ⟨h0, h1⟩ | h1
        · rw [h1] at g; exact absurd g (noYk_get hny i li gi ni)
        · exact h0
        · rw [h1] at g; cases g
      rw [idx _ _ _ _ e1, idx _ _ _ _ e2]
end Go.Eng

/-! part Snd24 -/
namespace Go.Eng
open Go.RowKit
open Classical

/-- a call that may panic, over chunks that are handed in -/
theorem lcall_execP {cf : Cfg} (hcf : CfgOk cf) {f : FuncId} {fn : Func} {c : Code} (hf : cf.P.funcs[f]? = some fn) (hb : fn.body = some c) (svs : List SV) (chs : List Chunk) (A : Prop) (chs1 : List Chunk) (r : SV) (B : Prop) (chs2 : List Chunk) (pc : List PanicEntry)
    (hk : Nat.ble chs.length 300 = true) (hn : Nat.ble svs.length fn.ntmps = true) (hsv : svOkL chs svs) (hny : noYk chs = true) (hrel1 : relL chs chs1) (hrel2 : relL chs chs2) (hr : idsOk chs1 r = true) (hok1 : okCs chs1 = true) (hok2 : okCs chs2 = true)
    (h : exec cf chs.length c ⟨fn.ntmps, entEnv svs nats, chs, [], dropL nats chs.length⟩ (subKP cf fn.results.toList chs.length A chs1 r B chs2 pc))
    (hrd : cf.rd = false := by rfl) (hy0 : cf.yN = 0 := by rfl) : LCall cf.P ⟨0, [], chs, [], []⟩ f svs (fun st' s => A ∧ st'.ch = chs1 ∧ s = r) (fun pc' st' => B ∧ st'.ch = chs2 ∧ pc' = pc) := by
  intro ρ S w hm
  have hk' := Nat.le_of_ble_eq_true hk
  let cx : Ctx := { wE := w, F := fun b => b < w.heap.size ∧ ∀ i, i < chs.length → ownBlk (chGet chs i) (ρ i) ≠ some b, k := chs.length, ρ0 := ρ, S0 := S }
  refine (callsIn_wide (n := 0)).1 (calls_execG (K := subKP cf fn.results.toList chs.length A chs1 r B chs2 pc) hcf hrd (cx := cx) (CxOk.triv hy0 (fun _ _ _ _ => rfl)) hf hb svs chs hk hn rfl hsv rfl rfl rfl
    ⟨hm.ids, fun b hb => ⟨hb.1, rfl, hb.2⟩, Nat.le_refl _, rfl, rfl, rfl, Nat.le_refl _, fun _ _ => rfl, fun id l go n e => absurd e (noYk_get hny id l go n), fun p q lp gp np lq gq nq e1 _ => absurd e1 (noYk_get hny p lp gp np), fun _ _ hS => hS⟩ (fun e st' hK => ?_) h)
  have key : (match resSVs cf.tt st' fn.results.toList with
    | some l => A ∧ ∃ m : List Nat, nodupN m = true ∧ eqN (takeL m chs.length) (takeL nats chs.length) = true ∧ st'.bs = [] ∧ chsLe st'.ch m chs1 m chs1 ∧ retSV l = ren m r
    | none => False) → (match resSVs cf.tt st' fn.results.toList with
    | some l => ∀ ρ1 S1 w', Inv cx st' ρ1 S1 w' →
        ((∃ st2 s ρ' S', Ending.returned (retVal ρ1 l) = .returned (den ρ' s) ∧ Adv ⟨0, [], chs, [], []⟩ st2 ρ ρ' S S' w w' ∧ svOk st2.ch s ∧ A ∧ st2.ch = chs1 ∧ s = r) ∨
         (∃ pc' st2 ρ' S', Ending.returned (retVal ρ1 l) = .panicked pc' ∧ Adv ⟨0, [], chs, [], []⟩ st2 ρ ρ' S S' w w' ∧ B ∧ st2.ch = chs2 ∧ pc' = pc))
    | none => False) := by
    intro hK
    split at hK
    · intro ρ1 S1 w' hi
      obtain ⟨hA, m, hnd, heq, hbs, hle, hrl⟩ := hK
      obtain ⟨ρ', S', hadv, hden⟩ := inv_sub (cx := cx) m rfl rfl (Nat.le_refl _) rfl rfl hm hi hbs hk' hrel1 hok1 hnd heq hle
      exact .inl ⟨_, r, ρ', S', by rw [hden, ← hrl, den_retSV], hadv, idsOk_svOk _ hr, hA, rfl, rfl⟩
    · exact hK.elim
  cases e with
  | normal => exact key hK
  | ret => exact key hK
  | panic pc' =>
    intro ρ1 S1 w' hi
    obtain ⟨hB, hpc, m, hnd, heq, hbs, hle⟩ := hK
    obtain ⟨ρ', S', hadv, hden⟩ := inv_sub (cx := cx) m rfl rfl (Nat.le_refl _) rfl rfl hm hi hbs hk' hrel2 hok2 hnd heq hle
    exact .inr ⟨pc', _, ρ', S', rfl, hadv, hB, rfl, hpc⟩
  | _ => exact hK.elim

/-- what recover answers, and what becomes of the panic -/
def recV : FrameMode → Option Value
  | .returning => some .nilIface
  | .panicking [{ v := v, recovered := false, goexit := false }] => some v
  | _ => none

def recK (k : Nat) (chs' : List Chunk) (e : Exit) (st : St) : Prop :=
  match e with
  | .normal | .ret => hasYk st.ch = true ∧ ∃ m : List Nat, nodupN m = true ∧ eqN (takeL m k) (takeL nats k) = true ∧ st.bs = [] ∧ chsLe st.ch m chs' m chs'
  | _ => False

/-- a deferred function that recovers first, and hands back nothing -/
theorem dcall_rec {cf : Cfg} (hcf : CfgOk cf) {f : FuncId} {fn : Func} {rest : Code} {id : Nat} {o0 o1 : Oper} {t5 t4 : Nat} {ts : Array TypeId} (hf : cf.P.funcs[f]? = some fn) (hb : fn.body = some (.seq (.region id #[o0, o1] false) rest))
    (h0 : o0.op = .call ⟨.builtin .recover, #[], ts⟩) (h0d : o0.dst = some t5) (h0g : o0.guard = none) (h1 : o1.op = .assign (.tmp t5)) (h1d : o1.dst = some t4) (h1g : o1.guard = none) (hres : fn.results = #[]) (ht5 : Nat.blt t5 fn.ntmps = true) (ht4 : Nat.blt t4 fn.ntmps = true)
    (svs : List SV) (chs chs' : List Chunk) (u : FrameMode) (x : Value) (hx : recV u = some x) (hk : Nat.ble (chs.length + 1) 300 = true) (hn : Nat.ble svs.length fn.ntmps = true) (hsv : svOkL chs svs) (hny : noYk chs = true) (hrel : relL chs chs') (hok : okCs chs' = true)
    (h : exec cf chs.length rest ⟨fn.ntmps, ⟨t4, [], .v x⟩ :: ⟨t5, [], .v x⟩ :: entEnv svs nats, snocL chs (.yk 0 true 0), [], dropL nats (chs.length + 1)⟩ (recK chs.length chs'))
    (hrd : cf.rd = false := by rfl) (hy0 : cf.yN = 0 := by rfl) : DCall cf.P ⟨0, [], chs, [], []⟩ f svs u (fun u' st' => st'.ch = chs' ∧ u' = .returning) := by
  intro ρ S w hm
  have hk' := Nat.le_of_ble_eq_true hk
  have hn' := Nat.le_of_ble_eq_true hn
  have ht5 : t5 < fn.ntmps := Nat.le_of_ble_eq_true ht5
  have ht4 : t4 < fn.ntmps := Nat.le_of_ble_eq_true ht4
  -- the mode behind recover
  obtain ⟨u1, hu1, hset, hrec⟩ : ∃ u1, u1 ≠ .run ∧ settle u1 = .returning ∧ ∀ (c₀ : Frame) (cs : List Frame), c₀.mode = u → (recoverD (c₀ :: cs) = some (x, { c₀ with mode := u1 } :: cs)) ∨ (recoverD (c₀ :: cs) = none ∧ x = .nilIface ∧ ({ c₀ with mode := u1 } : Frame) = c₀) := by
    unfold recV at hx
    split at hx
    · simp only [Option.some.injEq] at hx
      subst hx
      exact ⟨.returning, by simp, rfl, fun c₀ cs hc => .inr ⟨by simp [recoverD, hc], rfl, by rw [← hc]⟩⟩
    · rename_i v
      simp only [Option.some.injEq] at hx
      subst hx
      exact ⟨.panicking [{ v := v, recovered := true }], by simp, by simp [settle], fun c₀ cs hc => .inl (by simp [recoverD, hc])⟩
    · cases hx
  refine callsDIn_of_wpSIn hf hb trivial (fun c₀ cs hc0 => ?_)
  generalize ha0 : ({ tmps := (denL ρ svs).toArray ++ Array.replicate (fn.ntmps - (denL ρ svs).toArray.size) undef, defers := [] } : Act) = a0
  have hsz0 : a0.tmps.size = fn.ntmps := by
    rw [← ha0]
    simp only [Array.size_append, List.size_toArray, denL_eq, List.length_map, Array.size_replicate]
    omega
  let a1 := a0.put (some t5) x
  let a2 := a1.put (some t4) x
  have hsz1 : a1.tmps.size = fn.ntmps := by simp [a1, Act.put, hsz0]
  have hsz2 : a2.tmps.size = fn.ntmps := by simp [a2, Act.put, hsz1]
  have hev1 : a1.eval (.tmp t5) = x := by
    have := put_get (a := a0) (d := t5) (v := x) (by rw [hsz0]; exact ht5) t5
    rw [if_pos rfl] at this
    simp [Act.eval, a1, this]
  have hw0 : Region.wanted o0 (yielded #[o0, o1] a0.tmps) = true := by unfold Region.wanted; rw [h0g]
  have hw1 : Region.wanted o1 (yielded #[o0, o1] a1.tmps) = true := by unfold Region.wanted; rw [h1g]
  have hex0 : (execOp a0.eval o0).run cf.P w = .ok .recover w := by simp [execOp, h0, resolve, invoke, builtin]
  have hex1 : (execOp a1.eval o1).run cf.P w = .ok (.value x) w := by simp [execOp, h1, hev1]
  refine wpSIn_seq (wpSIn_region ?_)
  have hrange : List.range (#[o0, o1] : Array Oper).size = [0, 1] := rfl
  rw [hrange]
  -- the rest
  have hrest : ∀ cs', cs' = { c₀ with mode := u1 } :: cs → rest.wpSIn Fence.wide 0 cf.P (bodyPostS cf.P fn c₀ cs fun e u' w' => ∃ st' ρ' S', Adv ⟨0, [], chs, [], []⟩ st' ρ ρ' S S' w w' ∧ u' ≠ .run ∧ match e with
      | .returned _ => st'.ch = chs' ∧ settle u' = .returning
      | .panicked pc => st'.ch = chs' ∧ raised u' pc = .returning
      | .outgrown => False) a2 cs' w := by
    intro cs' hcs
    subst hcs
    let cx : Ctx := { wE := w, F := fun b => b < w.heap.size ∧ ∀ i, i < chs.length → ownBlk (chGet chs i) (ρ i) ≠ some b, k := chs.length, ρ0 := ρ, S0 := S }
    have hlen : (snocL chs (.yk 0 true 0)).length = chs.length + 1 := snocL_length _ _
    have hup : upd ρ chs.length (ρ chs.length) = ρ := by
      funext i
      unfold upd
      split
      · rename_i e; rw [e]
      · rfl
    have hm1 : MemOk ⟨fn.ntmps, ⟨t4, [], .v x⟩ :: ⟨t5, [], .v x⟩ :: entEnv svs nats, snocL chs (.yk 0 true 0), [], dropL nats (chs.length + 1)⟩ ρ S w := by
      have := MemOk.addCh (st := ⟨fn.ntmps, ⟨t4, [], .v x⟩ :: ⟨t5, [], .v x⟩ :: entEnv svs nats, chs, [], dropL nats (chs.length + 1)⟩) (st' := ⟨fn.ntmps, ⟨t4, [], .v x⟩ :: ⟨t5, [], .v x⟩ :: entEnv svs nats, snocL chs (.yk 0 true 0), [], dropL nats (chs.length + 1)⟩) (c := .yk 0 true 0) (v := ρ chs.length) hm.ids rfl rfl trivial (by simp [cellsIn, svOkL]) (by intro p hp; simp [condsOf] at hp) (fun b hb' => by simp [ownBlk] at hb')
      rw [hup] at this
      exact this
    refine wpSIn_of_wpIn rfl (exec_sound rest cf cx none 0 _ (recK chs.length chs') _ hcf (CxOk.triv hy0 (fun _ _ _ _ => rfl)) (by show chs.length ≤ 300; omega) (fun _ => rfl) h (fun e st' a' w' hK hs => ?_) a2 w ?_)
    · obtain ⟨ρ1, S1, he, hbs, hi, Ds, hd1, hd2, hd3, hd4⟩ := hs
      have key : recK chs.length chs' .normal st' → a'.defers = [] ∧ ∃ u', ({ c₀ with mode := u1 } :: cs : List Frame) = { c₀ with mode := u' } :: cs ∧ ∃ v, (results fn a'.tmps).run cf.P w' = .ok v w' ∧ ∃ st' ρ' S', Adv ⟨0, [], chs, [], []⟩ st' ρ ρ' S S' w w' ∧ u' ≠ .run ∧ (st'.ch = chs' ∧ settle u' = .returning) := by
        rintro ⟨hyk, m, hnd, heq, hbs', hle⟩
        obtain ⟨id0, x0, y0, z0, hyk⟩ := hasYk_get hyk
        have hnil : Ds = [] := by
          cases Ds with
          | nil => rfl
          | cons p q => exact absurd hyk (hd3 (by simp) id0 x0 y0 z0)
        subst hnil
        obtain ⟨ρ', S', hadv, _⟩ := inv_sub (cx := cx) m rfl rfl (Nat.le_refl _) rfl rfl hm hi hbs' (by omega) hrel hok hnd heq hle
        have hr := results_run (fn := fn) hcf hi.mem (he #[]) (l := []) (by rw [hres]; rfl)
        exact ⟨by rw [hd1]; rfl, u1, rfl, _, hr, _, ρ', S', hadv, hu1, rfl, hset⟩
      cases e with
      | normal => exact key hK
      | ret => exact key hK
      | _ => exact hK.elim
    · have hlook : ∀ d e, lookE (⟨t4, [], .v x⟩ :: ⟨t5, [], .v x⟩ :: entEnv svs nats) d = some e → e.cond = [] ∧ ((e.sv = .v x ∧ a2.tmps[d]? = some x) ∨ (a2.tmps[d]? = a0.tmps[d]? ∧ lookE (entEnv svs nats) d = some e)) := by
        intro d e hl
        have g2 := put_get (a := a1) (d := t4) (v := x) (by rw [hsz1]; exact ht4) d
        have g1 := put_get (a := a0) (d := t5) (v := x) (by rw [hsz0]; exact ht5) d
        simp only [lookE_cons] at hl
        split at hl
        · rename_i hd
          have hd : t4 = d := hd
          simp only [Option.some.injEq] at hl
          subst hl
          rw [if_pos hd.symm] at g2
          exact ⟨rfl, .inl ⟨rfl, g2⟩⟩
        · rename_i hd
          have hd : ¬ t4 = d := hd
          rw [if_neg (fun h => hd h.symm)] at g2
          split at hl
          · rename_i hd5
            have hd5 : t5 = d := hd5
            simp only [Option.some.injEq] at hl
            subst hl
            rw [if_pos hd5.symm] at g1
            exact ⟨rfl, .inl ⟨rfl, g2.trans g1⟩⟩
          · rename_i hd5
            have hd5 : ¬ t5 = d := hd5
            rw [if_neg (fun h => hd5 h.symm)] at g1
            obtain ⟨q1, _, _⟩ := entEnv_look svs nats 0 (fun j i hj => by have := nats_get j i hj; omega) d e hl
            exact ⟨q1, .inr ⟨g2.trans g1, hl⟩⟩
      refine ⟨ρ, S, fun ops => ⟨hsz2, ?_, ?_, ?_, fun e h => by simp at h, fun e h => by simp at h⟩, rfl, ⟨hm1, fun b hb => ⟨hb.1, rfl, fun i hi e => ?_⟩, Nat.le_refl _, rfl, rfl, rfl, by rw [hlen]; show chs.length ≤ _; omega, fun _ _ => rfl, fun id l go n e => ?_, fun p q lp gp np lq gq nq e1 e2 => ?_, fun _ _ h => h⟩, ⟨[], ?_, List.nodup_nil, fun h => absurd rfl h, fun D hD => by simp at hD⟩⟩
      · intro d e hl hj
        obtain ⟨q1, hor⟩ := hlook d e hl
        rw [q1, if_pos (show holds _ [] from trivial)]
        rcases hor with ⟨q2, q3⟩ | ⟨q2, q3⟩
        · rw [q2]; exact q3
        · rw [q2]
          obtain ⟨_, _, h3⟩ := entEnv_look svs nats 0 (fun j i hj => by have := nats_get j i hj; omega) d e q3
          rw [Nat.sub_zero] at h3
          have hlt := (List.getElem?_eq_some_iff.1 h3).1
          rw [← ha0]
          simp only
          rw [Array.getElem?_append_left (by simp [denL_eq]; exact hlt)]
          simp [denL_eq, h3]
      · intro d e hl _
        obtain ⟨q1, hor⟩ := hlook d e hl
        rcases hor with ⟨q2, q3⟩ | ⟨q2, q3⟩
        · rw [q2]; simp [svOk]
        · obtain ⟨_, _, h3⟩ := entEnv_look svs nats 0 (fun j i hj => by have := nats_get j i hj; omega) d e q3
          exact svOk_ext (ChExt.snoc _ _) _ (svOkL_get _ _ _ hsv h3)
      · intro d e hl
        rw [(hlook d e hl).1]
        intro p hp
        simp at hp
      · rcases chGet_snoc_cases chs (.yk 0 true 0) i with ⟨q1, q2⟩ | ⟨q1, q2⟩ | q2
        · simp only [q2] at e; exact hb.2 i q1 e
        · simp only [q2] at e; simp [ownBlk] at e
        · simp only [q2] at e; simp [ownBlk] at e
      · rcases chGet_snoc_cases chs (.yk 0 true 0) id with ⟨_, q1⟩ | ⟨_, q1⟩ | q1
        · simp only [q1] at e; exact absurd e (noYk_get hny id l go n)
        · simp only [q1, Chunk.yk.injEq] at e
          obtain ⟨rfl, rfl, rfl⟩ := e
          exact ⟨rfl, fun _ => False, trivial, fun b hb => hb.elim, fun b _ => .inr (fun h => h)⟩
        · simp only [q1] at e; cases e
      · have idx : ∀ i li gi ni, chGet (snocL chs (.yk 0 true 0)) i = .yk li gi ni → i = chs.length := by
          intro i li gi ni g
          rcases chGet_snoc_cases chs (.yk 0 true 0) i with ⟨_, q1⟩ | ⟨q0, q1⟩ | q1
          · rw [q1] at g; exact absurd g (noYk_get hny i li gi ni)
          · exact q0
          · rw [q1] at g; cases g
        rw [idx _ _ _ _ e1, idx _ _ _ _ e2]
      · show a2.defers = _
        simp only [a2, a1, put_defers, ← ha0]
        rfl
  simp only [wpOpsSIn]
  have hg0 : (#[o0, o1] : Array Oper)[0]? = some o0 := rfl
  have hg1 : (#[o0, o1] : Array Oper)[1]? = some o1 := rfl
  rw [hg0]
  simp only
  refine ⟨fun _ _ => trivial, ?_⟩
  rw [if_pos hw0, hex0]
  simp only
  rcases hrec c₀ cs hc0 with hr | ⟨hr, hxn, hfr⟩
  · rw [hr]
    simp only [hg1, h0d]
    refine ⟨fun _ _ => trivial, ?_⟩
    rw [if_pos hw1, hex1]
    simp only [h1d]
    exact hrest _ rfl
  · rw [hr]
    simp only [hg1, h0d]
    refine ⟨fun _ _ => trivial, ?_⟩
    rw [← hxn]
    rw [if_pos hw1, hex1]
    simp only [h1d]
    exact hrest _ (by rw [hfr])
end Go.Eng

/-! part Snd24a -/
namespace Go.Eng
open Go.RowKit
open Classical

/-- a deferred function that hands back nothing, where nothing panics -/
theorem dcall_exec {cf : Cfg} (hcf : CfgOk cf) {f : FuncId} {fn : Func} {c : Code} (hf : cf.P.funcs[f]? = some fn) (hb : fn.body = some c) (hres : fn.results = #[])
    (svs : List SV) (chs chs' : List Chunk) (hk : Nat.ble (chs.length + 1) 300 = true) (hn : Nat.ble svs.length fn.ntmps = true) (hsv : svOkL chs svs) (hny : noYk chs = true) (hrel : relL chs chs') (hok : okCs chs' = true)
    (h : exec cf chs.length c ⟨fn.ntmps, entEnv svs nats, snocL chs (.yk 0 true 0), [], dropL nats (chs.length + 1)⟩ (recK chs.length chs'))
    (hrd : cf.rd = false := by rfl) (hy0 : cf.yN = 0 := by rfl) : DCall cf.P ⟨0, [], chs, [], []⟩ f svs .returning (fun u' st' => st'.ch = chs' ∧ u' = .returning) := by
  intro ρ S w hm
  have hk' := Nat.le_of_ble_eq_true hk
  have hn' := Nat.le_of_ble_eq_true hn
  refine callsDIn_of_wpSIn hf hb trivial (fun c₀ cs hc0 => ?_)
  generalize ha0 : ({ tmps := (denL ρ svs).toArray ++ Array.replicate (fn.ntmps - (denL ρ svs).toArray.size) undef, defers := [] } : Act) = a0
  have hsz0 : a0.tmps.size = fn.ntmps := by
    rw [← ha0]
    simp only [Array.size_append, List.size_toArray, denL_eq, List.length_map, Array.size_replicate]
    omega
  have hrest : ∀ cs', cs' = { c₀ with mode := .returning } :: cs → c.wpSIn Fence.wide 0 cf.P (bodyPostS cf.P fn c₀ cs fun e u' w' => ∃ st' ρ' S', Adv ⟨0, [], chs, [], []⟩ st' ρ ρ' S S' w w' ∧ u' ≠ .run ∧ match e with
      | .returned _ => st'.ch = chs' ∧ settle u' = .returning
      | .panicked pc => st'.ch = chs' ∧ raised u' pc = .returning
      | .outgrown => False) a0 cs' w := by
    intro cs' hcs
    subst hcs
    let cx : Ctx := { wE := w, F := fun b => b < w.heap.size ∧ ∀ i, i < chs.length → ownBlk (chGet chs i) (ρ i) ≠ some b, k := chs.length, ρ0 := ρ, S0 := S }
    have hlen : (snocL chs (.yk 0 true 0)).length = chs.length + 1 := snocL_length _ _
    have hup : upd ρ chs.length (ρ chs.length) = ρ := by
      funext i
      unfold upd
      split
      · rename_i e; rw [e]
      · rfl
    have hm1 : MemOk ⟨fn.ntmps, entEnv svs nats, snocL chs (.yk 0 true 0), [], dropL nats (chs.length + 1)⟩ ρ S w := by
      have := MemOk.addCh (st := ⟨fn.ntmps, entEnv svs nats, chs, [], dropL nats (chs.length + 1)⟩) (st' := ⟨fn.ntmps, entEnv svs nats, snocL chs (.yk 0 true 0), [], dropL nats (chs.length + 1)⟩) (c := .yk 0 true 0) (v := ρ chs.length) hm.ids rfl rfl trivial (by simp [cellsIn, svOkL]) (by intro p hp; simp [condsOf] at hp) (fun b hb' => by simp [ownBlk] at hb')
      rw [hup] at this
      exact this
    refine wpSIn_of_wpIn rfl (exec_sound c cf cx none 0 _ (recK chs.length chs') _ hcf (CxOk.triv hy0 (fun _ _ _ _ => rfl)) (by show chs.length ≤ 300; omega) (fun _ => rfl) h (fun e st' a' w' hK hs => ?_) a0 w ?_)
    · obtain ⟨ρ1, S1, he, hbs, hi, Ds, hd1, hd2, hd3, hd4⟩ := hs
      have key : recK chs.length chs' .normal st' → a'.defers = [] ∧ ∃ u', ({ c₀ with mode := .returning } :: cs : List Frame) = { c₀ with mode := u' } :: cs ∧ ∃ v, (results fn a'.tmps).run cf.P w' = .ok v w' ∧ ∃ st' ρ' S', Adv ⟨0, [], chs, [], []⟩ st' ρ ρ' S S' w w' ∧ u' ≠ .run ∧ (st'.ch = chs' ∧ settle u' = .returning) := by
        rintro ⟨hyk, m, hnd, heq, hbs', hle⟩
        obtain ⟨id0, x0, y0, z0, hyk⟩ := hasYk_get hyk
        have hnil : Ds = [] := by
          cases Ds with
          | nil => rfl
          | cons p q => exact absurd hyk (hd3 (by simp) id0 x0 y0 z0)
        subst hnil
        obtain ⟨ρ', S', hadv, _⟩ := inv_sub (cx := cx) m rfl rfl (Nat.le_refl _) rfl rfl hm hi hbs' (by omega) hrel hok hnd heq hle
        have hr := results_run (fn := fn) hcf hi.mem (he #[]) (l := []) (by rw [hres]; rfl)
        exact ⟨by rw [hd1]; rfl, .returning, rfl, _, hr, _, ρ', S', hadv, by simp, rfl, rfl⟩
      cases e with
      | normal => exact key hK
      | ret => exact key hK
      | _ => exact hK.elim
    · have hlook : ∀ d e, lookE (entEnv svs nats) d = some e → e.cond = [] ∧ ((e.sv = .v undef ∧ a0.tmps[d]? = some undef ∧ False) ∨ (a0.tmps[d]? = a0.tmps[d]? ∧ lookE (entEnv svs nats) d = some e)) := by
        intro d e hl
        obtain ⟨q1, _, _⟩ := entEnv_look svs nats 0 (fun j i hj => by have := nats_get j i hj; omega) d e hl
        exact ⟨q1, .inr ⟨rfl, hl⟩⟩
      refine ⟨ρ, S, fun ops => ⟨hsz0, ?_, ?_, ?_, fun e h => by simp at h, fun e h => by simp at h⟩, rfl, ⟨hm1, fun b hb => ⟨hb.1, rfl, fun i hi e => ?_⟩, Nat.le_refl _, rfl, rfl, rfl, by rw [hlen]; show chs.length ≤ _; omega, fun _ _ => rfl, fun id l go n e => ?_, fun p q lp gp np lq gq nq e1 e2 => ?_, fun _ _ h => h⟩, ⟨[], ?_, List.nodup_nil, fun h => absurd rfl h, fun D hD => by simp at hD⟩⟩
      · intro d e hl hj
        obtain ⟨q1, hor⟩ := hlook d e hl
        rw [q1, if_pos (show holds _ [] from trivial)]
        rcases hor with ⟨_, _, q3⟩ | ⟨q2, q3⟩
        · exact q3.elim
        · obtain ⟨_, _, h3⟩ := entEnv_look svs nats 0 (fun j i hj => by have := nats_get j i hj; omega) d e q3
          rw [Nat.sub_zero] at h3
          have hlt := (List.getElem?_eq_some_iff.1 h3).1
          rw [← ha0]
          simp only
          rw [Array.getElem?_append_left (by simp [denL_eq]; exact hlt)]
          simp [denL_eq, h3]
      · intro d e hl _
        obtain ⟨q1, hor⟩ := hlook d e hl
        rcases hor with ⟨_, _, q3⟩ | ⟨q2, q3⟩
        · exact q3.elim
        · obtain ⟨_, _, h3⟩ := entEnv_look svs nats 0 (fun j i hj => by have := nats_get j i hj; omega) d e q3
          exact svOk_ext (ChExt.snoc _ _) _ (svOkL_get _ _ _ hsv h3)
      · intro d e hl
        rw [(hlook d e hl).1]
        intro p hp
        simp at hp
      · rcases chGet_snoc_cases chs (.yk 0 true 0) i with ⟨q1, q2⟩ | ⟨q1, q2⟩ | q2
        · simp only [q2] at e; exact hb.2 i q1 e
        · simp only [q2] at e; simp [ownBlk] at e
        · simp only [q2] at e; simp [ownBlk] at e
      · rcases chGet_snoc_cases chs (.yk 0 true 0) id with ⟨_, q1⟩ | ⟨_, q1⟩ | q1
        · simp only [q1] at e; exact absurd e (noYk_get hny id l go n)
        · simp only [q1, Chunk.yk.injEq] at e
          obtain ⟨rfl, rfl, rfl⟩ := e
          exact ⟨rfl, fun _ => False, trivial, fun b hb => hb.elim, fun b _ => .inr (fun h => h)⟩
        · simp only [q1] at e; cases e
      · have idx : ∀ i li gi ni, chGet (snocL chs (.yk 0 true 0)) i = .yk li gi ni → i = chs.length := by
          intro i li gi ni g
          rcases chGet_snoc_cases chs (.yk 0 true 0) i with ⟨_, q1⟩ | ⟨q0, q1⟩ | q1
          · rw [q1] at g; exact absurd g (noYk_get hny i li gi ni)
          · exact q0
          · rw [q1] at g; cases g
        rw [idx _ _ _ _ e1, idx _ _ _ _ e2]
      · show a0.defers = _
        rw [← ha0]
        rfl
  exact hrest _ (by rw [← hc0])
end Go.Eng

/-! part Snd25 -/
namespace Go.Eng
open Go.RowKit
open Classical

section
variable {P : Program} {tt : TT} {st : St} {L : List (Nat × Bool)} {ρ : Nat → Value} {S : Nat → Prop} {w : World}

/-! ### slices whose place is known, sliced -/
theorem pure_sliceLow (htt : TTok P tt) {t e : Nat} {x lo : Operand} {a : Addr} {len cap : Nat} {k : IntKind} {l : Int} (hd : (ttGet tt t).d = .sl e) (hk : knownD (ttGet tt e).d = true) (hx : getV st L x = some (.v (.slice (some a) len cap))) (hl : getV st L lo = some (.v (.int k l)))
    (h0 : 0 ≤ l) (h1 : l ≤ len) : PureQ P st L (.slice t x (some lo) none none) (slicedV (some a) l.toNat len cap (ttGet tt e).size) := by
  intro ρ S w ev o _ hL he ho
  have hdesc := tyOk_desc (htt t) (by rw [hd]; simp)
  rw [hd] at hdesc
  have hdesc : P.underlying t = some (.slice e) := hdesc
  have hno : (ttGet tt e).d ≠ .other := by intro e; rw [e] at hk; simp [knownD] at hk
  obtain ⟨inf, z, hinf, hsize, _⟩ := tyOk_info' (htt e) hno
  have e1 := he x _ hx
  have e2 := he lo _ hl
  simp only [den] at e1 e2
  simp [execOp, ho, e1, e2, Instr.sliceAt, Instr.slice, run_underlying hdesc, Instr.sliceBounds, Instr.sliceBound, asIntOf, h0, h1, sizeOf, typeInfo, hinf, hsize, slicedV]

theorem pure_slice3 (htt : TTok P tt) {t e : Nat} {x lo hi mx : Operand} {a : Addr} {len cap : Nat} {k k' k'' : IntKind} {l h m : Int} (hd : (ttGet tt t).d = .sl e) (hk : knownD (ttGet tt e).d = true) (hx : getV st L x = some (.v (.slice (some a) len cap)))
    (hl : getV st L lo = some (.v (.int k l))) (hh : getV st L hi = some (.v (.int k' h))) (hm : getV st L mx = some (.v (.int k'' m)))
    (h0 : 0 ≤ l) (h1 : l ≤ h) (h2 : h ≤ m) (h3 : m ≤ cap) : PureQ P st L (.slice t x (some lo) (some hi) (some mx)) (.slice (if m.toNat = l.toNat then some a else some (a.add (l.toNat * (ttGet tt e).size))) (h.toNat - l.toNat) (m.toNat - l.toNat)) := by
  intro ρ S w ev o _ hL he ho
  have hdesc := tyOk_desc (htt t) (by rw [hd]; simp)
  rw [hd] at hdesc
  have hdesc : P.underlying t = some (.slice e) := hdesc
  have hno : (ttGet tt e).d ≠ .other := by intro e; rw [e] at hk; simp [knownD] at hk
  obtain ⟨inf, z, hinf, hsize, _⟩ := tyOk_info' (htt e) hno
  have e1 := he x _ hx
  have e2 := he lo _ hl
  have e3 := he hi _ hh
  have e4 := he mx _ hm
  simp only [den] at e1 e2 e3 e4
  have g1 : (0 : Int) ≤ h := by omega
  have g2 : (0 : Int) ≤ m := by omega
  have g3 : h ≤ ((m.toNat : Nat) : Int) := by omega
  have g4 : l ≤ ((h.toNat : Nat) : Int) := by omega
  have g5 : ¬ (m < h) := by omega
  simp [execOp, ho, e1, e2, e3, e4, Instr.sliceAt, Instr.slice, run_underlying hdesc, Instr.sliceBounds, Instr.sliceBound, asIntOf, h0, h3, g1, g2, sizeOf, typeInfo, hinf, hsize]
  rw [if_pos (by omega), if_pos (by omega)]

/-! ### functions over captured variables that are only read -/
def newRps : List (List DV) → St → (St → List SV → Prop) → Prop
  | [], st, K => K st []
  | c :: r, st, K => newCh st (.rp [] c) (fun st1 i => newRps r st1 (fun st2 l => K st2 (.bx i 0 :: l)))
def repPs (S : Nat → Prop) (w : World) : List (List DV) → List Value → Prop
  | [], [] => True
  | c :: r, v :: vs => DRep S w (.ptr c) v ∧ repPs S w r vs
  | _, _ => False

theorem newRps_sound {w' : World} : ∀ (cs : List (List DV)) (vs : List Value) (st : St) (ρ : Nat → Value) (S : Nat → Prop) (w : World) (K : St → List SV → Prop), MemOk st ρ S w → Below w.heap.size w w' → repPs (fun b => S b ∨ (w.heap.size ≤ b ∧ b < w'.heap.size)) w' cs vs → newRps cs st K →
    ∃ st' l ρ' S', K st' l ∧ Adv st st' ρ ρ' S S' w w' ∧ svOkL st'.ch l ∧ denL ρ' l = vs
  | [], [], st, ρ, S, w, K, hm, hb, _, h => ⟨st, [], ρ, S, h, Adv.quiet rfl rfl rfl (ChExt.refl _) (fun _ _ => rfl) (hm.below hb) (fun i h1 h2 => absurd h2 (by omega)) hb, trivial, rfl⟩
  | c :: r, v :: vs, st, ρ, S, w, K, hm, hb, hr, h => by
    obtain ⟨st1, h1, hadv1, hlt1⟩ := adv_rdS hm hb (c := .rp [] c) (v := v) (fun _ _ _ => hr.1) (fun _ => rfl) rfl rfl rfl h
    obtain ⟨st2, l, ρ2, S2, hK, hadv2, hok, hden⟩ := newRps_sound (w' := w') r vs st1 _ _ w' _ hadv1.mem (Below.refl _ _) (by
      have := hr.2
      revert this
      generalize r = r
      generalize vs = vs
      intro this
      induction r generalizing vs with
      | nil => cases vs with | nil => trivial | cons => exact this.elim
      | cons c r ih => cases vs with
        | nil => exact this.elim
        | cons v vs => exact ⟨DRep.mono (fun b hb => .inl hb) (fun _ _ => rfl) this.1, ih vs this.2⟩) h1
    refine ⟨st2, .bx st.ch.length 0 :: l, ρ2, S2, hK, hadv1.trans hadv2, ?_, ?_⟩
    · simp only [svOkL, svOk]; exact ⟨Nat.lt_of_lt_of_le hlt1 hadv2.rel.1, hok⟩
    · have e1 : ρ2 st.ch.length = v := by rw [hadv2.old _ hlt1, upd_same]
      simp only [denL, hden, den, e1]
      have := hr.1
      cases this with
      | ptr b o cell _ _ _ => rfl
  | [], _ :: _, _, _, _, _, _, _, _, h, _ => h.elim
  | _ :: _, [], _, _, _, _, _, _, _, h, _ => h.elim

theorem lcall_fnRps {K : St → SV → Prop} {Kp : List PanicEntry → St → Prop} {f : Nat} {args : List SV} (g : Nat) (cs : List (List DV))
    (hc : ∀ ρ S w, MemOk st ρ S w → Calls P f (denL ρ args).toArray w fun e w' => ∃ vs, e = .returned (.func (.func g) #[] vs.toArray) ∧ Below w.heap.size w w' ∧ repPs (fun b => S b ∨ (w.heap.size ≤ b ∧ b < w'.heap.size)) w' cs vs)
    (h : newRps cs st (fun st' l => K st' (.fn g l))) : LCall P st f args K Kp := by
  intro ρ S w hm
  refine (hc ρ S w hm).mono fun e w' ⟨vs, he, hb, hd⟩ => ?_
  obtain ⟨st', l, ρ', S', hK, hadv, hok, hden⟩ := newRps_sound cs vs st ρ S w _ hm hb hd h
  exact .inl ⟨st', .fn g l, ρ', S', by rw [he, den, hden], hadv, hok, hK⟩

/-! ### what a state holds, as data -/
mutual
def repK : Nat → St → SV → (DV → Prop) → Prop
  | 0, _, _, _ => False
  | n + 1, st, s, K => match s with
    | .v x => (match x with
      | .agg _ => False
      | .tuple _ => False
      | x => K (.v x))
    | .sl id => (match chGet st.ch id with
      | .rd α inh sz enc xs => K (.sl α inh sz enc xs)
      | .own _ α inh sz enc xs => K (.sl α inh sz enc xs)
      | .raw _ len sz cells => repsK n st cells (fun ds => ∃ (α : Type) (inh : Inhabited α) (enc : α → List DV) (ys : List α), ys.length = len ∧ ds = ys.flatMap enc ∧ (∀ y ∈ ys, (enc y).length = sz) ∧ K (.sl α inh sz enc ys))
      | _ => False)
    | .bx id 0 => (match chGet st.ch id with
      | .rp [] cells => K (.ptr cells)
      | .bx _ cells => repsK n st cells (fun ds => K (.ptr ds))
      | _ => False)
    | _ => False
def repsK : Nat → St → List SV → (List DV → Prop) → Prop
  | 0, _, _, _ => False
  | n + 1, st, l, K => match l with
    | [] => K []
    | s :: r => repK n st s (fun d => repsK n st r (fun ds => K (d :: ds)))
end

def allBlk (st : St) (ρ : Nat → Value) (S : Nat → Prop) (b : Nat) : Prop := S b ∨ ∃ i, i < st.ch.length ∧ ownBlk (chGet st.ch i) (ρ i) = some b

theorem one_cell {x : Value} (h1 : ∀ c, x ≠ .agg c) (h2 : ∀ c, x ≠ .tuple c) : x.oneCell' = true := by
  cases x <;> first | rfl | exact absurd rfl (h1 _) | exact absurd rfl (h2 _)

mutual
theorem repK_sound (hm : MemOk st ρ S w) : ∀ (n : Nat) (s : SV) (K : DV → Prop), svOk st.ch s → repK n st s K → ∃ d, K d ∧ DRep (allBlk st ρ S) w d (den ρ s)
  | 0, s, K, hs, h => by simp [repK] at h
  | n + 1, s, K, hs, h => by
    cases s with
    | v x =>
      simp only [repK] at h
      split at h
      · exact h.elim
      · exact h.elim
      · rename_i h1 h2
        exact ⟨_, h, .v _ (one_cell (fun c e => h1 c (by rw [e])) (fun c e => h2 c (by rw [e])))⟩
    | sl id =>
      simp only [repK] at h
      simp only [svOk] at hs
      have hok := hm.ok id hs
      split at h
      · rename_i α inh sz enc xs hc
        rw [hc] at hok
        exact ⟨_, h, DRep.mono (fun b hb => .inl hb) (fun _ _ => rfl) hok⟩
      · rename_i t α inh sz enc xs hc
        rw [hc] at hok
        exact ⟨_, h, own_drep hok _ (fun b hb => .inl hb) (fun b hb => .inr ⟨id, hs, by rw [hc]; exact hb⟩)⟩
      · rename_i t len sz cells hc
        have hcl := hm.cells id
        rw [hc] at hok hcl
        obtain ⟨b, hv, hg⟩ := hok
        obtain ⟨ds, ⟨α, inh, enc, xs, hn, hx, hl, hK⟩, hlen, h5⟩ := repsK_sound hm n cells _ hcl h
        refine ⟨_, hK, ?_⟩
        simp only [den]
        rw [hv, ← hn]
        have hob : ownBlk (chGet st.ch id) (ρ id) = some b := by rw [hc, hv]; rfl
        have hrep : ∀ (i j : Nat) d, i < xs.length → (enc (nth xs i))[j]? = some d → ∃ x, (denL ρ cells)[i * sz + j]? = some x ∧ DRep (allBlk st ρ S) w d x := by
          intro i j d hi hd
          have hj : j < sz := by
            have := hl (nth xs i) (by rw [nth_eq xs i hi]; exact List.getElem_mem _)
            have h6 := (List.getElem?_eq_some_iff.1 hd).1
            omega
          have := flatMap_get enc sz xs hl i j hi hj
          rw [← hx, hd] at this
          exact h5 _ d this
        refine .sl (some ⟨b, 0, none⟩) xs.length b 0 (fun i j => ((denL ρ cells)[i * sz + j]?).getD undef) (Nat.le_refl _) (fun _ => ⟨rfl, .inr ⟨id, hs, hob⟩⟩) (fun i j d hi hd => ?_) (fun i j d hi hd => ?_)
        · obtain ⟨x, h1, _⟩ := hrep i j d hi hd
          rw [Nat.zero_add, cell_of_row w b _ _ t (0, 0) hg, h1]
          simpa using h1
        · obtain ⟨x, h1, h2⟩ := hrep i j d hi hd
          simp only [h1, Option.getD_some]
          exact h2
      · exact h.elim
    | bx id off =>
      simp only [svOk] at hs
      cases off with
      | succ k => simp [repK] at h
      | zero =>
        simp only [repK] at h
        have hok := hm.ok id hs
        split at h
        · rename_i cells hc
          rw [hc] at hok
          refine ⟨_, h, ?_⟩
          have := DRep.mono (S' := allBlk st ρ S) (w' := w) (fun b hb => .inl hb) (fun _ _ => rfl) (hok trivial)
          simp only [den]
          generalize hv : ρ id = v at this
          cases this with
          | ptr b o cell hb hcell hrep => exact .ptr b o cell hb hcell hrep
        · rename_i t cells hc
          have hcl := hm.cells id
          rw [hc] at hok hcl
          obtain ⟨b, hv, hg⟩ := hok
          obtain ⟨ds, hK, hlen, h5⟩ := repsK_sound hm n cells _ hcl h
          refine ⟨_, hK, ?_⟩
          have hob : ownBlk (chGet st.ch id) (ρ id) = some b := by rw [hc, hv]; rfl
          simp only [den, hv]
          refine .ptr b 0 (fun j => ((denL ρ cells)[j]?).getD undef) (.inr ⟨id, hs, hob⟩) (fun j d hd => ?_) (fun j d hd => ?_)
          · obtain ⟨x, h1, _⟩ := h5 j d hd
            rw [Nat.zero_add, cell_of_row w b _ _ t (0, 0) hg, h1]
            simpa using h1
          · obtain ⟨x, h1, h2⟩ := h5 j d hd
            rw [h1]
            exact h2
        · exact h.elim
    | _ => simp [repK] at h
theorem repsK_sound (hm : MemOk st ρ S w) : ∀ (n : Nat) (l : List SV) (K : List DV → Prop), svOkL st.ch l → repsK n st l K → ∃ ds, K ds ∧ ds.length = l.length ∧ ∀ (j : Nat) d, ds[j]? = some d → ∃ x, (denL ρ l)[j]? = some x ∧ DRep (allBlk st ρ S) w d x
  | 0, l, K, hs, h => by simp [repsK] at h
  | n + 1, [], K, hs, h => ⟨[], by simpa only [repsK] using h, rfl, fun j d hd => by simp at hd⟩
  | n + 1, s :: r, K, hs, h => by
    simp only [repsK] at h
    obtain ⟨d, h1, hd⟩ := repK_sound hm n s _ hs.1 h
    obtain ⟨ds, hK, hl, hg⟩ := repsK_sound hm n r _ hs.2 h1
    refine ⟨d :: ds, hK, by simp [hl], fun j d' hd' => ?_⟩
    cases j with
    | zero => simp at hd'; subst hd'; exact ⟨_, rfl, hd⟩
    | succ j => simpa [denL] using hg j d' (by simpa using hd')
end

theorem allBlk_lt (hm : MemOk st ρ S w) {b : Nat} (h : allBlk st ρ S b) : b < w.heap.size := by
  rcases h with h | ⟨i, hi, h⟩
  · exact hm.lt b h
  · exact ownBlk_lt (hm.ok i hi) h

/-- in a walk: what a callee reads, whatever it is -/
theorem MemOk.rep (hm : MemOk st ρ S w) (n : Nat) (s : SV) (d : DV) (hs : idsOk st.ch s = true) (h : repK n st s (· = d)) : DRep (· < w.heap.size) w d (den ρ s) := by
  obtain ⟨d', rfl, hd⟩ := repK_sound hm n s _ (idsOk_svOk s hs) h
  exact DRep.mono (fun b hb => allBlk_lt hm hb) (fun _ _ => rfl) hd

/-- behind a walk: a result, as what is only read from now on -/
theorem Inv.rep {cx : Ctx} {w' : World} (h : Inv cx st ρ S w') (n : Nat) (s : SV) (d : DV) (hs : idsOk st.ch s = true) (hr : repK n st s (· = d))
    (hF : ∀ b, b < cx.wE.heap.size → cx.F b := by intro _ h; exact h) : DRep (fun b => cx.S0 b ∨ (cx.wE.heap.size ≤ b ∧ b < w'.heap.size)) w' d (den ρ s) := by
  obtain ⟨d', rfl, hd⟩ := repK_sound h.mem n s _ (idsOk_svOk s hs) hr
  refine DRep.mono (fun b hb => ?_) (fun _ _ => rfl) hd
  have hlt := allBlk_lt h.mem hb
  rcases Nat.lt_or_ge b cx.wE.heap.size with hl | hge
  · rcases hb with hS | ⟨i, hi, e⟩
    · exact .inl (h.sf b (hF b hl) hS)
    · exact absurd e ((h.frm b (hF b hl)).2.2 i hi)
  · exact .inr ⟨hge, hlt⟩

/-! ### a call that hands back data -/
theorem newDs_sound {w' : World} : ∀ (ds : List DV) (us : List Value) (st : St) (ρ : Nat → Value) (S : Nat → Prop) (w : World) (K : St → List SV → Prop), MemOk st ρ S w → Below w.heap.size w w' → repYs (fun b => S b ∨ (w.heap.size ≤ b ∧ b < w'.heap.size)) w' ds us → dvs2svs [] ds st K →
    ∃ st' l ρ' S', K st' l ∧ Adv st st' ρ ρ' S S' w w' ∧ svOkL st'.ch l ∧ denL ρ' l = us
  | [], [], st, ρ, S, w, K, hm, hb, _, h => ⟨st, [], ρ, S, h, Adv.quiet rfl rfl rfl (ChExt.refl _) (fun _ _ => rfl) (hm.below hb) (fun i h1 h2 => absurd h2 (by omega)) hb, trivial, rfl⟩
  | d :: r, v :: vs, st, ρ, S, w, K, hm, hb, hr, h => by
    have up : repYs (fun b => (fun b => S b ∨ (w.heap.size ≤ b ∧ b < w'.heap.size)) b ∨ (w'.heap.size ≤ b ∧ b < w'.heap.size)) w' r vs := repYs_mono (fun b hb => .inl hb) (fun _ _ => rfl) hr.2
    cases d with
    | v x =>
      have e : v = x := hr.1
      subst e
      simp only [dvs2svs] at h
      obtain ⟨st2, l, ρ2, S2, hK, hadv2, hok, hden⟩ := newDs_sound r vs st ρ S w _ hm hb hr.2 h
      exact ⟨st2, .v v :: l, ρ2, S2, hK, hadv2, ⟨trivial, hok⟩, by simp only [denL, den, hden]⟩
    | sl α inh sz enc xs =>
      simp only [dvs2svs, rdOr] at h
      obtain ⟨st1, h1, hadv1, hlt1⟩ := adv_rdS hm hb (c := .rd α inh sz enc xs) (v := v) (fun _ _ => hr.1) (fun _ => rfl) rfl rfl rfl h
      obtain ⟨st2, l, ρ2, S2, hK, hadv2, hok, hden⟩ := newDs_sound r vs st1 _ _ w' _ hadv1.mem (Below.refl _ _) up h1
      exact ⟨st2, .sl st.ch.length :: l, ρ2, S2, hK, hadv1.trans hadv2, ⟨Nat.lt_of_lt_of_le hlt1 hadv2.rel.1, hok⟩, by simp only [denL, den, hden, hadv2.old _ hlt1, upd_same]⟩
    | ptr cells =>
      simp only [dvs2svs] at h
      obtain ⟨st1, h1, hadv1, hlt1⟩ := adv_rdS hm hb (c := .rp [] cells) (v := v) (fun _ _ _ => hr.1) (fun _ => rfl) rfl rfl rfl h
      obtain ⟨st2, l, ρ2, S2, hK, hadv2, hok, hden⟩ := newDs_sound r vs st1 _ _ w' _ hadv1.mem (Below.refl _ _) up h1
      refine ⟨st2, .bx st.ch.length 0 :: l, ρ2, S2, hK, hadv1.trans hadv2, ⟨Nat.lt_of_lt_of_le hlt1 hadv2.rel.1, hok⟩, ?_⟩
      have e1 : ρ2 st.ch.length = v := by rw [hadv2.old _ hlt1, upd_same]
      simp only [denL, hden, den, e1]
      have := hr.1
      cases this with
      | ptr b o cell _ _ _ => rfl
  | [], _ :: _, _, _, _, _, _, _, _, h, _ => h.elim
  | _ :: _, [], _, _, _, _, _, _, _, h, _ => h.elim

/-- a call that hands back several things: data -/
theorem lcall_reps {K : St → SV → Prop} {Kp : List PanicEntry → St → Prop} {f : Nat} {args : List SV} (ds : List DV)
    (hc : ∀ ρ S w, MemOk st ρ S w → Calls P f (denL ρ args).toArray w fun e w' => ∃ us, e = .returned (.tuple us.toArray) ∧ Below w.heap.size w w' ∧ repYs (fun b => S b ∨ (w.heap.size ≤ b ∧ b < w'.heap.size)) w' ds us)
    (h : dvs2svs [] ds st (fun st' l => K st' (.tup l))) : LCall P st f args K Kp := by
  intro ρ S w hm
  refine (hc ρ S w hm).mono fun e w' ⟨vs, he, hb, hd⟩ => ?_
  obtain ⟨st', l, ρ', S', hK, hadv, hok, hden⟩ := newDs_sound ds vs st ρ S w _ hm hb hd h
  exact .inl ⟨st', .tup l, ρ', S', by rw [he, den, hden], hadv, hok, hK⟩
/-- a call that hands back one thing -/
theorem lcall_rep1 {K : St → SV → Prop} {Kp : List PanicEntry → St → Prop} {f : Nat} {args : List SV} (d : DV)
    (hc : ∀ ρ S w, MemOk st ρ S w → Calls P f (denL ρ args).toArray w fun e w' => ∃ u, e = .returned u ∧ Below w.heap.size w w' ∧ repY (fun b => S b ∨ (w.heap.size ≤ b ∧ b < w'.heap.size)) w' d u)
    (h : dvs2svs [] [d] st (fun st' l => match l with | [s] => K st' s | _ => False)) : LCall P st f args K Kp := by
  intro ρ S w hm
  refine (hc ρ S w hm).mono fun e w' ⟨u, he, hb, hd⟩ => ?_
  obtain ⟨st', l, ρ', S', hK, hadv, hok, hden⟩ := newDs_sound [d] [u] st ρ S w _ hm hb ⟨hd, trivial⟩ h
  match l, hK, hok, hden with
  | [s], hK, hok, hden =>
    simp only [denL, List.cons.injEq, and_true] at hden
    exact .inl ⟨st', s, ρ', S', by rw [he, hden], hadv, hok.1, hK⟩
/-- a call that hands back a struct -/
theorem lcall_repA {K : St → SV → Prop} {Kp : List PanicEntry → St → Prop} {f : Nat} {args : List SV} (ds : List DV)
    (hc : ∀ ρ S w, MemOk st ρ S w → Calls P f (denL ρ args).toArray w fun e w' => ∃ us, e = .returned (.agg us.toArray) ∧ Below w.heap.size w w' ∧ repYs (fun b => S b ∨ (w.heap.size ≤ b ∧ b < w'.heap.size)) w' ds us)
    (h : dvs2svs [] ds st (fun st' l => K st' (.agg l))) : LCall P st f args K Kp := by
  intro ρ S w hm
  refine (hc ρ S w hm).mono fun e w' ⟨vs, he, hb, hd⟩ => ?_
  obtain ⟨st', l, ρ', S', hK, hadv, hok, hden⟩ := newDs_sound ds vs st ρ S w _ hm hb hd h
  exact .inl ⟨st', .agg l, ρ', S', by rw [he, den, hden], hadv, hok, hK⟩
end
end Go.Eng

/-! part Snd26 -/
namespace Go.Eng
open Go.RowKit
open Classical

section
variable {P : Program} {tt : TT} {st : St} {L : List (Nat × Bool)} {ρ : Nat → Value} {S : Nat → Prop} {w : World}

/-- things of one's own are from now on only read (l: their numbers, and what they are then): ahead of a call -/
theorem lcall_frzTo {f : Nat} {args : List SV} {K : St → SV → Prop} {Kp : List PanicEntry → St → Prop} (l : List (Nat × Chunk)) (h : frzTo l st (fun st1 => LCall P st1 f args K Kp)) : LCall P st f args K Kp := by
  intro ρ S w hm
  obtain ⟨st1, S1, h1, hadv⟩ := frzTo_sound l st S hm h
  refine (h1 ρ S1 w hadv.mem).mono fun e w' hc => ?_
  rcases hc with ⟨st', s, ρ', S', he, hadv', hs, hK⟩ | ⟨ch, st', ρ', S', he, hadv', hK⟩
  · exact .inl ⟨st', s, ρ', S', he, hadv.trans hadv', hs, hK⟩
  · exact .inr ⟨ch, st', ρ', S', he, hadv.trans hadv', hK⟩
/-- the same behind a call -/
theorem lcall_then {f : Nat} {args : List SV} {K : St → SV → Prop} {Kp : List PanicEntry → St → Prop} (h : LCall P st f args (fun st' s => ∃ l, frzTo l st' (fun st'' => svOk st''.ch s → K st'' s)) Kp) : LCall P st f args K Kp := by
  intro ρ S w hm
  refine (h ρ S w hm).mono fun e w' hc => ?_
  rcases hc with ⟨st', s, ρ', S', he, hadv, hs, l, hK⟩ | ⟨ch, st', ρ', S', he, hadv, hK⟩
  · obtain ⟨st1, S1, h1, hadv1⟩ := frzTo_sound l st' S' hadv.mem hK
    have hs1 := svOk_rel hadv1.rel s hs
    exact .inl ⟨st1, s, ρ', S1, he, hadv.trans hadv1, hs1, h1 hs1⟩
  · exact .inr ⟨ch, st', ρ', S', he, hadv, hK⟩
end
end Go.Eng

/-! part Snd27 -/
namespace Go.Eng
open Go.RowKit
open Classical

/-! ### what a state holds is this data -/
mutual
def repTo : Nat → St → SV → DV → Prop
  | 0, _, _, _ => False
  | n + 1, st, s, d => match s with
    | .v x => (match d with
      | .v y => x = y ∧ x.oneCell' = true
      | .sl _ _ _ _ xs => x = .slice none 0 0 ∧ xs = []
      | .ptr _ => False)
    | .sl id => (match d with
      | .sl α inh sz enc xs => (match chGet st.ch id with
        | .rd α' inh' sz' enc' xs' => DV.sl α' inh' sz' enc' xs' = .sl α inh sz enc xs
        | .own _ α' inh' sz' enc' xs' => DV.sl α' inh' sz' enc' xs' = .sl α inh sz enc xs
        | .raw _ len sz' cells => sz' = sz ∧ xs.length = len ∧ (∀ y ∈ xs, (enc y).length = sz) ∧ repsTo n st cells (xs.flatMap enc)
        | _ => False)
      | _ => False)
    | .bx id 0 => (match d with
      | .ptr ds => (match chGet st.ch id with
        | .rp [] cells => cells = ds
        | .bx _ cells => repsTo n st cells ds
        | _ => False)
      | _ => False)
    | _ => False
def repsTo : Nat → St → List SV → List DV → Prop
  | 0, _, _, _ => False
  | n + 1, st, l, ds => match l with
    | [] => (match ds with | [] => True | _ => False)
    | s :: r => (match ds with | d :: ds => repTo n st s d ∧ repsTo n st r ds | [] => False)
end

section
variable {st : St} {ρ : Nat → Value} {S : Nat → Prop} {w : World}
theorem DRep.nil {α : Type} {inh : Inhabited α} {sz : Nat} {enc : α → List DV} {S : Nat → Prop} {w : World} : DRep S w (.sl α inh sz enc []) (.slice none 0 0) :=
  .sl none 0 0 0 (fun _ _ => undef) (Nat.le_refl _) (fun h => absurd rfl h) (fun i j d hi => by simp at hi) (fun i j d hi => by simp at hi)
mutual
theorem repTo_sound (hm : MemOk st ρ S w) : ∀ (n : Nat) (s : SV) (d : DV), svOk st.ch s → repTo n st s d → DRep (allBlk st ρ S) w d (den ρ s)
  | 0, s, d, hs, h => by simp [repTo] at h
  | n + 1, s, d, hs, h => by
    cases s with
    | v x =>
      simp only [repTo] at h
      split at h
      · obtain ⟨rfl, h2⟩ := h
        exact .v _ h2
      · rename_i α inh sz enc xs
        obtain ⟨rfl, rfl⟩ := h
        exact DRep.nil
      · exact h.elim
    | sl id =>
      simp only [repTo] at h
      simp only [svOk] at hs
      have hok := hm.ok id hs
      split at h
      case h_2 => exact h.elim
      rename_i α inh sz enc xs
      split at h
      · rename_i α' inh' sz' enc' xs' hc
        rw [hc] at hok
        rw [← h]
        exact DRep.mono (fun b hb => .inl hb) (fun _ _ => rfl) hok
      · rename_i t α' inh' sz' enc' xs' hc
        rw [hc] at hok
        rw [← h]
        exact own_drep hok _ (fun b hb => .inl hb) (fun b hb => .inr ⟨id, hs, by rw [hc]; exact hb⟩)
      · rename_i t len sz' cells hc
        have hcl := hm.cells id
        rw [hc] at hok hcl
        obtain ⟨b, hv, hg⟩ := hok
        obtain ⟨rfl, hn, hl, h⟩ := h
        have h5 := repsTo_sound hm n cells _ hcl h
        simp only [den]
        rw [hv, ← hn]
        have hob : ownBlk (chGet st.ch id) (ρ id) = some b := by rw [hc, hv]; rfl
        have hrep : ∀ (i j : Nat) d, i < xs.length → (enc (nth xs i))[j]? = some d → ∃ x, (denL ρ cells)[i * sz' + j]? = some x ∧ DRep (allBlk st ρ S) w d x := by
          intro i j d hi hd
          have hj : j < sz' := by
            have := hl (nth xs i) (by rw [nth_eq xs i hi]; exact List.getElem_mem _)
            have h6 := (List.getElem?_eq_some_iff.1 hd).1
            omega
          have := flatMap_get enc sz' xs hl i j hi hj
          rw [hd] at this
          exact h5 _ d this
        refine .sl (some ⟨b, 0, none⟩) xs.length b 0 (fun i j => ((denL ρ cells)[i * sz' + j]?).getD undef) (Nat.le_refl _) (fun _ => ⟨rfl, .inr ⟨id, hs, hob⟩⟩) (fun i j d hi hd => ?_) (fun i j d hi hd => ?_)
        · obtain ⟨x, h1, _⟩ := hrep i j d hi hd
          rw [Nat.zero_add, cell_of_row w b _ _ t (0, 0) hg, h1]
          simpa using h1
        · obtain ⟨x, h1, h2⟩ := hrep i j d hi hd
          simp only [h1, Option.getD_some]
          exact h2
      · exact h.elim
    | bx id off =>
      simp only [svOk] at hs
      cases off with
      | succ k => simp [repTo] at h
      | zero =>
        simp only [repTo] at h
        have hok := hm.ok id hs
        split at h
        case h_2 => exact h.elim
        rename_i ds
        split at h
        · rename_i cells hc
          subst h
          rw [hc] at hok
          have := DRep.mono (S' := allBlk st ρ S) (w' := w) (fun b hb => .inl hb) (fun _ _ => rfl) (hok trivial)
          simp only [den]
          generalize hv : ρ id = v at this
          cases this with
          | ptr b o cell hb hcell hrep => exact .ptr b o cell hb hcell hrep
        · rename_i t cells hc
          have hcl := hm.cells id
          rw [hc] at hok hcl
          obtain ⟨b, hv, hg⟩ := hok
          have h5 := repsTo_sound hm n cells _ hcl h
          have hob : ownBlk (chGet st.ch id) (ρ id) = some b := by rw [hc, hv]; rfl
          simp only [den, hv]
          refine .ptr b 0 (fun j => ((denL ρ cells)[j]?).getD undef) (.inr ⟨id, hs, hob⟩) (fun j d hd => ?_) (fun j d hd => ?_)
          · obtain ⟨x, h1, _⟩ := h5 j d hd
            rw [Nat.zero_add, cell_of_row w b _ _ t (0, 0) hg, h1]
            simpa using h1
          · obtain ⟨x, h1, h2⟩ := h5 j d hd
            rw [h1]
            exact h2
        · exact h.elim
    | _ => simp [repTo] at h
theorem repsTo_sound (hm : MemOk st ρ S w) : ∀ (n : Nat) (l : List SV) (ds : List DV), svOkL st.ch l → repsTo n st l ds → ∀ (j : Nat) d, ds[j]? = some d → ∃ x, (denL ρ l)[j]? = some x ∧ DRep (allBlk st ρ S) w d x
  | 0, l, ds, hs, h => by simp [repsTo] at h
  | n + 1, [], ds, hs, h => by
    simp only [repsTo] at h
    cases ds with
    | nil => intro j d hd; simp at hd
    | cons d r => exact h.elim
  | n + 1, s :: r, ds, hs, h => by
    simp only [repsTo] at h
    cases ds with
    | nil => exact h.elim
    | cons d ds =>
      have h1 := repTo_sound hm n s d hs.1 h.1
      have h2 := repsTo_sound hm n r ds hs.2 h.2
      intro j d' hd'
      cases j with
      | zero => simp at hd'; subst hd'; exact ⟨_, rfl, h1⟩
      | succ j => simpa [denL] using h2 j d' (by simpa using hd')
end

/-- in a walk: what a callee reads, whatever it is -/
theorem MemOk.to (hm : MemOk st ρ S w) (n : Nat) (s : SV) (d : DV) (hs : idsOk st.ch s = true) (h : repTo n st s d) : DRep (· < w.heap.size) w d (den ρ s) :=
  DRep.mono (fun b hb => allBlk_lt hm hb) (fun _ _ => rfl) (repTo_sound hm n s _ (idsOk_svOk s hs) h)

/-- behind a walk: a result, as what is only read from now on -/
theorem Inv.to {cx : Ctx} {w' : World} (h : Inv cx st ρ S w') (n : Nat) (s : SV) (d : DV) (hs : idsOk st.ch s = true) (hr : repTo n st s d)
    (hF : ∀ b, b < cx.wE.heap.size → cx.F b := by intro _ h; exact h) : DRep (fun b => cx.S0 b ∨ (cx.wE.heap.size ≤ b ∧ b < w'.heap.size)) w' d (den ρ s) := by
  have hd := repTo_sound h.mem n s _ (idsOk_svOk s hs) hr
  refine DRep.mono (fun b hb => ?_) (fun _ _ => rfl) hd
  have hlt := allBlk_lt h.mem hb
  rcases Nat.lt_or_ge b cx.wE.heap.size with hl | hge
  · rcases hb with hS | ⟨i, hi, e⟩
    · exact .inl (h.sf b (hF b hl) hS)
    · exact absurd e ((h.frm b (hF b hl)).2.2 i hi)
  · exact .inr ⟨hge, hlt⟩
end
end Go.Eng

/-! part Snd28 -/
namespace Go.Eng
open Go.RowKit
open Classical

/-! ### arguments that are arrays, or structs with slices -/
theorem opens_array {P : Program} {t e : TypeId} {n sz : Nat} {α : Type} [inh : Inhabited α] {enc : α → List DV} {ok : α → Prop} (ht : P.underlying t = some (.array n e)) (hc : P.cellsOf e = sz) (hct : P.cellsOf t = n * sz) (he : Opens P e sz enc ok) :
    Opens P t (n * sz) (fun xs : List α => xs.flatMap enc) (fun xs => xs.length = n ∧ ∀ x ∈ xs, ok x) := by
  intro H en w base spare held fuel cs x hx
  obtain ⟨xs, m, _, _, hxl, hl, hel⟩ := DataW.trod_array ht hx
  rw [hc] at hel
  have each : ∀ i, i < n → ∃ a : α, ok a ∧ (enc a).length = sz ∧ ∀ (j : Nat) (d : DV), (enc a)[j]? = some d → ∃ v : Value, ((cs.drop (i * sz)).take sz)[j]? = some v ∧ DRep (· < w.heap.size) w d v := by
    intro i hi
    have hi' : i < xs.length := by omega
    obtain ⟨_, a, ha, hla, hd⟩ := he en w base spare held m _ xs[i] (by rw [hel i hi, List.getElem?_eq_getElem hi'])
    exact ⟨a, ha, hla, hd⟩
  obtain ⟨f, hf⟩ := Deep.choose_lt (α := α) each
  let ys : List α := (List.range n).map f
  have hyl : ys.length = n := by simp [ys]
  have hyn : ∀ i, i < n → nth ys i = f i := by
    intro i hi
    rw [nth_eq ys i (by omega)]
    simp [ys]
  have hyz : ∀ y ∈ ys, (enc y).length = sz := by
    intro y hy
    simp only [ys, List.mem_map, List.mem_range] at hy
    obtain ⟨i, hi, rfl⟩ := hy
    exact (hf i hi).2.1
  refine ⟨by rw [hxl, hct], ys, ⟨hyl, fun y hy => ?_⟩, ?_, fun J d hJ => ?_⟩
  · simp only [ys, List.mem_map, List.mem_range] at hy
    obtain ⟨i, hi, rfl⟩ := hy
    exact (hf i hi).1
  · rw [flatMap_len enc sz ys hyz, hyl]
  · have hJl := (List.getElem?_eq_some_iff.1 hJ).1
    rw [flatMap_len enc sz ys hyz, hyl] at hJl
    have hsz : 0 < sz := by
      rcases Nat.eq_zero_or_pos sz with h | h
      · rw [h] at hJl; omega
      · exact h
    have hj : J % sz < sz := Nat.mod_lt _ hsz
    have hi : J / sz < n := (Nat.div_lt_iff_lt_mul hsz).2 hJl
    have hdm := Nat.div_add_mod J sz
    have e1 : J = J / sz * sz + J % sz := by rw [Nat.mul_comm]; exact hdm.symm
    have hg := flatMap_get enc sz ys hyz (J / sz) (J % sz) (by omega) hj
    rw [← e1, hJ, hyn _ hi] at hg
    obtain ⟨v, hv, hr⟩ := (hf _ hi).2.2 _ _ hg.symm
    refine ⟨v, ?_, hr⟩
    rw [List.getElem?_take_of_lt hj, List.getElem?_drop, ← e1] at hv
    exact hv

theorem Opens.map2 {P : Program} {t : TypeId} {sz : Nat} {α β : Type} {enc : α → List DV} {ok : α → Prop} (h : Opens P t sz enc ok) (g : α → β) {enc' : β → List DV} {ok' : β → Prop} (hg : ∀ a, ok a → enc' (g a) = enc a) (hok : ∀ a, ok a → ok' (g a)) : Opens P t sz enc' ok' := by
  intro H en w base spare held fuel cs x hx
  obtain ⟨hl, a, ha, hla, hd⟩ := h en w base spare held fuel cs x hx
  exact ⟨hl, g a, hok a ha, by rw [hg a ha]; exact hla, by rw [hg a ha]; exact hd⟩

theorem repYs_of {S : Nat → Prop} {w : World} : ∀ (ds : List DV) (cs : List Value), cs.length = ds.length → (∀ (j : Nat) (d : DV), ds[j]? = some d → ∃ v : Value, cs[j]? = some v ∧ DRep S w d v) → repYs S w ds cs
  | [], [], _, _ => trivial
  | d :: ds, c :: cs, hl, h => by
    obtain ⟨v, hv, hr⟩ := h 0 d rfl
    simp only [List.getElem?_cons_zero, Option.some.injEq] at hv
    subst hv
    refine ⟨?_, repYs_of ds cs (by simpa using hl) (fun j d' hj => by simpa using h (j + 1) d' (by simpa using hj))⟩
    cases d with
    | v x => cases hr with | v _ _ => rfl
    | sl α inh sz enc xs => exact hr
    | ptr l => exact hr
  | [], _ :: _, hl, _ => by simp at hl
  | _ :: _, [], hl, _ => by simp at hl

/-- an argument that is a struct -/
theorem Opens.aggS {P : Program} {t : TypeId} {sz : Nat} {α : Type} {enc : α → List DV} {ok : α → Prop} (h : Opens P t sz enc ok)
    {H : Type} {en : TypeId × Value → H} {w : World} {base : Nat} {spare : Nat → Bool} {held : Bool} {cs : Array Value} {d : DataW H} {p : List MemPlace} (ht : DataW.Trod en P w base spare held t (.agg cs) d p) :
    ∃ a, ok a ∧ repYs (· < w.heap.size) w (enc a) cs.toList := by
  obtain ⟨fuel, hx⟩ := ht
  obtain ⟨hl, a, hok, hla, hd⟩ := h en w base spare held fuel _ _ hx
  exact ⟨a, hok, repYs_of _ _ (by rw [hla]; exact hl) hd⟩
end Go.Eng

/-! part Snd29 -/
/- Maps of one's own: what an operation does to them is said by hand. -/
namespace Go.Eng
open Go Go.RowKit
open Classical

section
variable {P : Program} {st : St} {op : Op} {K : St → SV → Prop}

/-- an operation that changes nothing, and hands back a value of which only a property is known -/
theorem gop_any (R : Value → Prop)
    (hrun : ∀ ρ S w (e : Operand → Value) (o : Oper), MemOk st ρ S w → (∀ x s, getV st [] x = some s → e x = den ρ s) → o.op = op → ∃ r, (execOp e o).run P w = .ok (.value r) w ∧ R r)
    (h : ∀ r, R r → K st (.v r)) : GOp P st op K := by
  constructor
  intro ρ S w e o hm he ho
  obtain ⟨r, hr, hR⟩ := hrun ρ S w e o hm (fun x s hx => (he x s hx).1) ho
  exact ⟨st, .v r, ρ, S, w, .inl hr, Adv.refl hm, trivial, h r hR⟩
theorem gop_makeMap {t : TypeId} (ok : Obj → Prop) (h0 : ok (.map #[] 0)) (h : newCh st (.ob ok) (fun st' id => K st' (.sl id))) : GOp P st (.makeMap t none) K := by
  constructor
  intro ρ S w e o hm he ho
  obtain ⟨st', hK, hadv, hlt, _⟩ := newOwn_sound (c := .ob ok) (w' := w.alloc (.map #[] 0)) (v := .map (some w.heap.size)) hm (below_alloc w _)
    (fun ρ' _ => ⟨w.heap.size, .map #[] 0, rfl, heap_alloc_new w _, h0⟩) (by simp [cellsIn, svOkL]) (fun b e => by simp [ownBlk] at e; omega) rfl h
  refine ⟨st', .sl st.ch.length, _, S, w.alloc (.map #[] 0), .inl ?_, hadv, by simpa [svOk] using hlt, hK⟩
  simp only [den, upd_same]
  simp [execOp, ho, Instr.makeMap, newObj]
  rfl
theorem gop_update (id : Nat) (ok' : Obj → Prop) {ok : Obj → Prop} (hid : Nat.blt id st.ch.length = true) (hc : chGet st.ch id = .ob ok)
    (hrun : ∀ ρ S w (e : Operand → Value) (o : Oper) r ob, MemOk st ρ S w → (∀ x s, getV st [] x = some s → e x = den ρ s) → o.op = op → ρ id = .map (some r) → w.heap[r]? = some ob → ok ob →
      ∃ ob', (execOp e o).run P w = .ok .skip { w with heap := w.heap.setIfInBounds r ob' } ∧ ok' ob')
    (h : withCh st id (.ob ok') (fun st' => K st' (.v undef))) : GOp P st op K := by
  constructor
  intro ρ S w e o hm he ho
  have hp2 := blt_lt hid
  obtain ⟨r, ob, hb, hg, hob⟩ := (hc ▸ hm.ok id hp2 : ChunkOk _ _ _ _ (.ob ok) _)
  obtain ⟨ob', hr, hob'⟩ := hrun ρ S w e o r ob hm (fun x s hx => (he x s hx).1) ho hb hg hob
  obtain ⟨st', hK, hch, hbs, henv, hn⟩ := withCh_sound h
  have hlt : r < w.heap.size := (Array.getElem?_eq_some_iff.1 hg).1
  have hoth : ∀ b, b ≠ r → (w.heap.setIfInBounds r ob')[b]? = w.heap[b]? := fun b hne => by
    rw [Array.getElem?_setIfInBounds]
    rw [if_neg (fun e => hne e.symm)]
  have hrel : ChRel st.ch (setCh st.ch id (.ob ok')) := ⟨by rw [setCh_length]; exact Nat.le_refl _, fun i hi n hn => by
    rw [chGet_setCh _ _ _ _ hp2] at hn ⊢
    split at hn
    · simp [lenOf] at hn
    · rename_i e; rw [if_neg e]; exact ⟨n, hn, Nat.le_refl _, rfl⟩⟩
  have hnS : ∀ b', S b' → b' ≠ r := fun b' hS e => hm.out id r hp2 (by rw [hc, hb]; rfl) (e ▸ hS)
  refine ⟨st', .v undef, ρ, S, _, .inr ⟨rfl, hr⟩, ?_, by simp [svOk], hK⟩
  refine ⟨hn, henv, hbs, by rw [hch]; exact hrel, fun _ _ => rfl, ?_, fun _ h => h, fun b' hlt hno => hoth _ (fun e => hno id hp2 (by rw [hc, hb, e]; rfl)), fun i b' hi h2 => ?_, fun _ h => .inl h, by rw [hch]; exact yks_set hp2 rfl, by simp, rfl, rfl, rfl⟩
  · refine hm.change hp2 hch hbs (fun b' hS => hoth _ (hnS b' hS)) (fun i b' hi hne h2 => hoth _ (fun e => ?_)) ⟨r, ob', hb, by rw [Array.getElem?_setIfInBounds_self_of_lt hlt], hob'⟩ ?_ hrel ?_ rfl (by simp)
    · exact hm.sep i id b' hi hp2 hne h2 (by rw [hc, hb, e]; rfl)
    · simp [cellsIn, svOkL]
    · intro b' h2; rw [hc]; rw [hb] at h2 ⊢; exact h2
  · rw [hch, setCh_length] at hi
    rw [hch, chGet_setCh _ _ _ _ hp2] at h2
    split at h2
    · rename_i e; subst e; exact .inr ⟨_, hp2, by rw [hc]; rw [hb] at h2 ⊢; exact h2⟩
    · exact .inr ⟨i, hi, h2⟩
end
/-- a call that hands back a plain value of which only a property is known -/
theorem lcall_any {P : Program} {st : St} {f : Nat} {args : List SV} {K : St → SV → Prop} {Kp : List PanicEntry → St → Prop} (R : Value → Prop)
    (hc : ∀ ρ S w, MemOk st ρ S w → Calls P f (denL ρ args).toArray w fun e w' => ∃ r, e = .returned r ∧ R r ∧ Below w.heap.size w w') (h : ∀ r, R r → K st (.v r)) : LCall P st f args K Kp := by
  intro ρ S w hm
  refine (hc ρ S w hm).mono fun e w' ⟨r, he, hr, hb⟩ => .inl ⟨st, .v r, ρ, S, he, ?_, trivial, h r hr⟩
  exact Adv.quiet rfl rfl rfl (ChExt.refl _) (fun _ _ => rfl) (hm.below hb) (fun i h1 h2 => absurd h2 (by omega)) hb
theorem MemOk.cnd {st : St} {ρ : Nat → Value} {S : Nat → Prop} {w : World} (hm : MemOk st ρ S w) (id : Nat) {L : List (Nat × Bool)} {α : Type} [inh : Inhabited α] {sz : Nat} {enc : α → List DV} {xs : List α} (hid : Nat.blt id st.ch.length = true) (hc : chGet st.ch id = .cnd L α inh sz enc xs) (hL : holds st.bs L) : Rd w (ρ id) sz enc xs := by
  have := hm.ok id (blt_lt hid)
  rw [hc] at this
  exact DRep.mono (fun b hb => hm.lt b hb) (fun _ _ => rfl) (this hL)
end Go.Eng

/-! part Snd30 -/
namespace Go.Eng
open Go.RowKit
open Classical

/-- deferred calls, over chunks that are handed in -/
theorem calls_execD2 {cf : Cfg} (hcf : CfgOk cf) {f : FuncId} {fn : Func} {c : Code} {args : Array Value} {ρ : Nat → Value} {w : World} {R : Ending → World → Prop} (hf : cf.P.funcs[f]? = some fn) (hb : fn.body = some c)
    (svs : List SV) (chs : List Chunk) (F S : Nat → Prop) (hk : Nat.ble (chs.length + 1) 300 = true) (hn : Nat.ble svs.length fn.ntmps = true) (hargs : args = (denL ρ svs).toArray) (hsv : svOkL chs svs)
    (hm : MemOk ⟨fn.ntmps, entEnv svs nats, chs, [], dropL nats chs.length⟩ ρ S w) (hF : ∀ b, F b → b < w.heap.size ∧ ∀ i, i < chs.length → ownBlk (chGet chs i) (ρ i) ≠ some b)
    (h : execD cf (chs.length + 1) c ⟨fn.ntmps, entEnv svs nats, snocL chs (.yk 0 true 0), [], dropL nats (chs.length + 1)⟩ [] (retKD cf { wE := w, F := F, k := chs.length + 1, ρ0 := ρ, S0 := S } fn.results.toList R))
    (hrd : cf.rd = false := by rfl) (hy0 : cf.yN = 0 := by rfl) (hny : noYk chs = true := by rfl) : Calls cf.P f args w R := by
  have hn := Nat.le_of_ble_eq_true hn
  have hk := Nat.le_of_ble_eq_true hk
  let cx : Ctx := { wE := w, F := F, k := chs.length + 1, ρ0 := ρ, S0 := S }
  have hcx : CxOk cf cx := CxOk.triv hy0 (fun _ _ _ _ => rfl)
  have hlen : (snocL chs (.yk 0 true 0)).length = chs.length + 1 := snocL_length _ _
  have hup : upd ρ chs.length (ρ chs.length) = ρ := by
    funext i
    unfold upd
    split
    · rename_i e; rw [e]
    · rfl
  have hm1 : MemOk ⟨fn.ntmps, entEnv svs nats, snocL chs (.yk 0 true 0), [], dropL nats (chs.length + 1)⟩ ρ S w := by
    have := MemOk.addCh (st' := ⟨fn.ntmps, entEnv svs nats, snocL chs (.yk 0 true 0), [], dropL nats (chs.length + 1)⟩) (c := .yk 0 true 0) (v := ρ chs.length) hm rfl rfl trivial (by simp [cellsIn, svOkL]) (by intro p hp; simp [condsOf] at hp) (fun b hb' => by simp [ownBlk] at hb')
    rw [hup] at this
    exact this
  have hout : ∀ b, F b → ∀ i, i < (snocL chs (.yk 0 true 0)).length → ownBlk (chGet (snocL chs (.yk 0 true 0)) i) (ρ i) ≠ some b := fun b hb i hi e => by
    rcases chGet_snoc_cases chs (.yk 0 true 0) i with ⟨h0, h1⟩ | ⟨_, h1⟩ | h1
    · rw [h1] at e
      exact (hF b hb).2 i h0 e
    · rw [h1] at e; cases e
    · rw [h1] at e; cases e
  refine (callsIn_wide (n := 0)).1 (callsIn_of_wp_marks hf hb trivial ?_)
  refine execD_sound hcf hrd c cx 0 _ [] _ _ hcx hk ⟨rfl, fun d hd => by simp at hd⟩ (fun cx' ds' e st' a' w' hl hds hK hs => ?_) h _ _ ?_
  · obtain ⟨ρ', S', he, hbs, hinv, Ds, hdl, hnd, hny', hDs⟩ := hs
    have hst : ∀ go, Stab (cx'.J go) := by rw [hl.J]; exact hcx.stab
    have key : ∀ u, u ≠ .run → leaveK cf cx fn.results.toList R ds' u st' → LeavesInM Fence.wide 0 cf.P fn a'.tmps R a'.defers u w' := by
      intro u hu hK
      rw [hdl, hds.1]
      refine leaves_marksL hu _ Ds w' hnd (fun D hD => (hDs D hD).1) (fun w2 h1 h2 h3 h4 h5 => ?_)
      have hi2 := hinv.marks hst hny' hDs h1 h2 h3 h4 h5
      exact leave_sound hcf rfl ds' cx' u st' ρ' S' w2 a' hst hl (fun d hd => ⟨hds.2 d hd ρ' hinv.anch, hds.2 d hd⟩) hu (he #[]) hi2 hK
    cases e with
    | normal => exact key _ (by simp) hK
    | ret => exact key _ (by simp) hK
    | panic pc => exact key _ (by simp) hK
    | _ => exact hK.elim
  · refine ⟨ρ, S, fun ops => ⟨?_, ?_, ?_, ?_, fun e h => by simp at h, fun e h => by simp at h⟩, rfl, ⟨hm1, fun b hb => ⟨(hF b hb).1, rfl, hout b hb⟩, Nat.le_refl _, rfl, rfl, rfl, by rw [hlen]; exact Nat.le_refl _, fun _ _ => rfl, fun id l go n e => ?_, fun p q lp gp np lq gq nq e1 e2 => ?_, fun _ _ h => h⟩, ⟨[], rfl, List.nodup_nil, fun h => absurd rfl h, fun D hD => by simp at hD⟩⟩
    · subst hargs
      simp only [Array.size_append, List.size_toArray, denL_eq, List.length_map, Array.size_replicate]
      omega
    · intro d e hl hj
      obtain ⟨h1, _, h3⟩ := entEnv_look svs nats 0 (fun j i hj => by have := nats_get j i hj; omega) d e hl
      rw [h1, if_pos (show holds _ [] from trivial)]
      rw [Nat.sub_zero] at h3
      have hlt := (List.getElem?_eq_some_iff.1 h3).1
      subst hargs
      simp only
      rw [Array.getElem?_append_left (by simp [denL_eq]; exact hlt)]
      simp [denL_eq, h3]
    · intro d e hl _
      obtain ⟨h1, _, h3⟩ := entEnv_look svs nats 0 (fun j i hj => by have := nats_get j i hj; omega) d e hl
      exact svOk_ext (ChExt.snoc _ _) _ (svOkL_get _ _ _ hsv h3)
    · intro d e hl
      rw [(entEnv_look svs nats 0 (fun j i hj => by have := nats_get j i hj; omega) d e hl).1]
      intro p hp
      simp at hp
    · rcases chGet_snoc_cases chs (.yk 0 true 0) id with ⟨_, h1⟩ | ⟨_, h1⟩ | h1
      · rw [h1] at e; exact absurd e (noYk_get hny id l go n)
      · rw [h1] at e
        simp only [Chunk.yk.injEq] at e
        obtain ⟨rfl, rfl, rfl⟩ := e
        exact ⟨rfl, fun _ => False, trivial, fun b hb => hb.elim, fun b _ => .inr (fun h => h)⟩
      · rw [h1] at e; cases e
    · have idx : ∀ i li gi ni, chGet (snocL chs (.yk 0 true 0)) i = .yk li gi ni → i = chs.length := by
        intro i li gi ni g
        rcases chGet_snoc_cases chs (.yk 0 true 0) i with ⟨_, h1⟩ | ⟨h0, h1⟩ | h1
        · rw [h1] at g; exact absurd g (noYk_get hny i li gi ni)
        · exact h0
        · rw [h1] at g; cases g
      rw [idx _ _ _ _ e1, idx _ _ _ _ e2]
/-- what a call over handed in chunks ends with -/
def LEnd (chs chs' : List Chunk) (r : SV) (ρ : Nat → Value) (S : Nat → Prop) (w : World) (e : Ending) (w' : World) : Prop :=
  ∃ st' s ρ' S', e = .returned (den ρ' s) ∧ Adv ⟨0, [], chs, [], []⟩ st' ρ ρ' S S' w w' ∧ svOk st'.ch s ∧ st'.ch = chs' ∧ s = r
abbrev cxL (chs : List Chunk) (ρ : Nat → Value) (S : Nat → Prop) (w : World) : Ctx := { wE := w, F := fun b => b < w.heap.size ∧ ∀ i, i < chs.length → ownBlk (chGet chs i) (ρ i) ≠ some b, k := chs.length + 1, ρ0 := ρ, S0 := S }
theorem lcall_execD {cf : Cfg} (hcf : CfgOk cf) {f : FuncId} {fn : Func} {c : Code} (hf : cf.P.funcs[f]? = some fn) (hb : fn.body = some c) (svs : List SV) (chs chs' : List Chunk) (r : SV)
    (hk : Nat.ble (chs.length + 1) 300 = true) (hn : Nat.ble svs.length fn.ntmps = true) (hsv : svOkL chs svs) (hny : noYk chs = true)
    (h : ∀ ρ S w, MemOk ⟨0, [], chs, [], []⟩ ρ S w → execD cf (chs.length + 1) c ⟨fn.ntmps, entEnv svs nats, snocL chs (.yk 0 true 0), [], dropL nats (chs.length + 1)⟩ [] (retKD cf (cxL chs ρ S w) fn.results.toList (LEnd chs chs' r ρ S w)))
    (hrd : cf.rd = false := by rfl) (hy0 : cf.yN = 0 := by rfl) : LCall cf.P ⟨0, [], chs, [], []⟩ f svs (fun st' s => st'.ch = chs' ∧ s = r) := by
  intro ρ S w hm
  refine Calls.mono (R := LEnd chs chs' r ρ S w) ?_ (fun e w' h => .inl h)
  exact calls_execD2 hcf hf hb svs chs _ S hk hn rfl hsv hm.ids (fun b hb => hb) (h ρ S w hm) hrd hy0 hny
theorem lend {chs chs' : List Chunk} {r : SV} {ρ ρ1 : Nat → Value} {S S1 : Nat → Prop} {w w' : World} {st' : St} {l : List SV} (m : List Nat) (hm : MemOk ⟨0, [], chs, [], []⟩ ρ S w) (hi : Inv (cxL chs ρ S w) st' ρ1 S1 w') (hbs : st'.bs = []) (hk : Nat.ble chs.length 300 = true) (hrel : relL chs chs') (hr : idsOk chs' r = true) (hok : okCs chs' = true)
    (hnd : nodupN m = true) (heq : eqN (takeL m chs.length) (takeL nats chs.length) = true) (hle : chsLe st'.ch m chs' m chs') (hl : retSV l = ren m r) : LEnd chs chs' r ρ S w (.returned (retVal ρ1 l)) w' := by
  obtain ⟨ρ', S', hadv, hden⟩ := inv_sub (cx := cxL chs ρ S w) m rfl rfl (Nat.le_succ _) rfl rfl hm hi hbs (Nat.le_of_ble_eq_true hk) hrel hok hnd heq hle
  exact ⟨_, r, ρ', S', by rw [hden, ← hl, den_retSV], hadv, idsOk_svOk _ hr, rfl, rfl⟩
/-- the caller's chunks behind a call, said plainly (nested calls' renamings cost much otherwise) -/
theorem subSt_out {n : Nat} {env : List Ent} {ch : List Chunk} {bs : List BEnt} {ids : List Nat} {m : List Nat} {chs1 : List Chunk} {K : St → List Nat → Prop} (out : List Chunk) (m1 : List Nat)
    (hm1 : catN m (numsFrom ch.length (dropL chs1 m.length)) = m1) (hout : newsL m1 (dropL chs1 m.length) (setsL m1 m chs1 ch) = out) (h : K ⟨n, env, out, bs, dropL nats out.length⟩ m1) : subSt ⟨n, env, ch, bs, ids⟩ m chs1 K := by
  unfold subSt
  simp only [setsK_eq, newsK_eq, hm1, hout]
  exact h
end Go.Eng

/-! part Snd31 -/
/- results that are known to exist -/
namespace Go.Eng
open Go.RowKit
open Classical

/-- the ends of a walk whose results are known to exist -/
def subKE (cf : Cfg) (res : List ResultVar) (k : Nat) {X : Type} (chs1 : X → List Chunk) (r : X → SV) (e : Exit) (st : St) : Prop :=
  match e with
  | .normal | .ret => (match resSVs cf.tt st res with
    | some l => ∃ x : X, ∃ m : List Nat, nodupN m = true ∧ eqN (takeL m k) (takeL nats k) = true ∧ st.bs = [] ∧ chsLe st.ch m (chs1 x) m (chs1 x) ∧ retSV l = ren m (r x)
    | none => False)
  | _ => False
theorem lcall_execE {cf : Cfg} (hcf : CfgOk cf) {f : FuncId} {fn : Func} {c : Code} (hf : cf.P.funcs[f]? = some fn) (hb : fn.body = some c) (svs : List SV) (chs : List Chunk) {X : Type} (chs1 : X → List Chunk) (r : X → SV)
    (hk : Nat.ble chs.length 300 = true) (hn : Nat.ble svs.length fn.ntmps = true) (hsv : svOkL chs svs) (hny : noYk chs = true) (hrel : ∀ x, relL chs (chs1 x)) (hr : ∀ x, idsOk (chs1 x) (r x) = true) (hok : ∀ x, okCs (chs1 x) = true)
    (h : exec cf chs.length c ⟨fn.ntmps, entEnv svs nats, chs, [], dropL nats chs.length⟩ (subKE cf fn.results.toList chs.length chs1 r))
    (hrd : cf.rd = false := by rfl) (hy0 : cf.yN = 0 := by rfl) : LCall cf.P ⟨0, [], chs, [], []⟩ f svs (fun st' s => ∃ x, st'.ch = chs1 x ∧ s = r x) := by
  intro ρ S w hm
  have hk' := Nat.le_of_ble_eq_true hk
  refine Calls.mono (R := fun e w' => ∃ st' s ρ' S', e = .returned (den ρ' s) ∧ Adv ⟨0, [], chs, [], []⟩ st' ρ ρ' S S' w w' ∧ svOk st'.ch s ∧ ∃ x, st'.ch = chs1 x ∧ s = r x) ?_ (fun e w' h => .inl h)
  refine (callsIn_wide (n := 0)).1 (calls_execG (K := subKE cf fn.results.toList chs.length chs1 r) hcf hrd (cx := { wE := w, F := fun b => b < w.heap.size ∧ ∀ i, i < chs.length → ownBlk (chGet chs i) (ρ i) ≠ some b, k := chs.length, ρ0 := ρ, S0 := S }) (CxOk.triv hy0 (fun _ _ _ _ => rfl)) hf hb svs chs hk hn rfl hsv rfl rfl rfl
    ⟨hm.ids, fun b hb => ⟨hb.1, rfl, hb.2⟩, Nat.le_refl _, rfl, rfl, rfl, Nat.le_refl _, fun _ _ => rfl, fun id l go n e => absurd e (noYk_get hny id l go n), fun p q lp gp np lq gq nq e1 _ => absurd e1 (noYk_get hny p lp gp np), fun _ _ hS => hS⟩ (fun e st' hK => ?_) h)
  have key : (match resSVs cf.tt st' fn.results.toList with
    | some l => ∃ x : X, ∃ m : List Nat, nodupN m = true ∧ eqN (takeL m chs.length) (takeL nats chs.length) = true ∧ st'.bs = [] ∧ chsLe st'.ch m (chs1 x) m (chs1 x) ∧ retSV l = ren m (r x)
    | none => False) → (match resSVs cf.tt st' fn.results.toList with
    | some l => ∀ ρ1 S1 w', Inv { wE := w, F := fun b => b < w.heap.size ∧ ∀ i, i < chs.length → ownBlk (chGet chs i) (ρ i) ≠ some b, k := chs.length, ρ0 := ρ, S0 := S } st' ρ1 S1 w' →
        (∃ st2 s ρ' S', Ending.returned (retVal ρ1 l) = .returned (den ρ' s) ∧ Adv ⟨0, [], chs, [], []⟩ st2 ρ ρ' S S' w w' ∧ svOk st2.ch s ∧ ∃ x, st2.ch = chs1 x ∧ s = r x)
    | none => False) := by
    intro hK
    split at hK
    · rename_i l hl
      intro ρ1 S1 w' hi
      obtain ⟨x, m, hnd, heq, hbs, hle, hrl⟩ := hK
      obtain ⟨ρ', S', hadv, hden⟩ := inv_sub m rfl rfl (Nat.le_refl _) rfl rfl hm hi hbs hk' (hrel x) (hok x) hnd heq hle
      exact ⟨_, r x, ρ', S', by rw [hden, ← hrl, den_retSV], hadv, idsOk_svOk _ (hr x), x, rfl, rfl⟩
    · exact hK.elim
  cases e with
  | normal => exact key hK
  | ret => exact key hK
  | _ => exact hK.elim
theorem lcall_subE {P : Program} {st : St} {f : Nat} {args : List SV} {K : St → SV → Prop} {Kp : List PanicEntry → St → Prop} (m : List Nat) {X : Type} {chs : List Chunk} {chs1 : X → List Chunk} {svs : List SV} {r : X → SV}
    (hc : LCall P ⟨0, [], chs, [], []⟩ f svs (fun st' s => ∃ x, st'.ch = chs1 x ∧ s = r x)) (hargs : args = renL m svs) (hnd : nodupN m = true) (hlt : allLt st.ch.length m = true) (hok : ∀ x, okCs (chs1 x) = true) (hsz : ∀ x, Nat.blt (st.ch.length + (chs1 x).length) 1000 = true)
    (hle : chsLe st.ch m chs m chs) (h : ∀ x, subSt st m (chs1 x) (fun st' m' => K st' (ren m' (r x)))) : LCall P st f args K Kp := by
  intro ρ S w hm
  have hemb : Emb st.ch m chs := ⟨hnd, hle⟩
  have hm0 := hemb.mem hm 0 [] []
  rw [hargs, ← denL_ren]
  refine (hc (renρ ρ m) S w hm0).mono fun e w' hc2 => ?_
  rcases hc2 with ⟨st0, s, ρ0, S0, he, hadv, hs, x, hch0, hsr⟩ | ⟨_, _, _, _, _, _, h⟩
  · subst hsr
    obtain ⟨st', s', ρ', S', h1, h2, h3, h4⟩ := sub_core m hm hadv hch0 hs hnd hlt (hok x) (hsz x) hle (h x)
    exact .inl ⟨st', s', ρ', S', by rw [he, h1], h2, h3, h4⟩
  · exact h.elim
end Go.Eng
