/- gsub.parser.by, and gsub.Parse. -/
import Derived.Test.YtalploampmdemaaN7
set_option maxRecDepth 100000
set_option linter.unusedVariables false
namespace Go.Proofs.Ytalploampmdemaa
open Go Go.Eng Go.RowKit

theorem by_1 (b : List Int) (g L s ty : Int) (hk : ty = 1) : LCall Try.prog ⟨0, [], paC b g L s, [], []⟩ 24 [.bx 3 0, .v (.int .u16 ty)] (fun st' r => st'.ch = paC b g L s ∧ r = .mv 41 [.bx 3 0] []) := by
  subst hk
  refine lcall_exec (cf := cf) cfok (fn := Try.f24) Try.func24 rfl _ _ (paC b g L s) (.mv 41 [.bx 3 0] []) rfl rfl (by simp [svOkL, svOk]) rfl (by exact ⟨trivial, ⟨Nat.le_refl _, rfl⟩, trivial, trivial, trivial⟩) rfl rfl ?_
  refine And.intro (fun _ => ?_) (fun h => absurd rfl (of_decide_eq_false h))
  exact ⟨[0, 1, 2, 3], rfl, rfl, rfl, (And.intro (And.intro rfl rfl) (And.intro rfl (And.intro (And.intro rfl rfl) (And.intro (And.intro rfl rfl) trivial)))), rfl⟩
theorem by_2 (b : List Int) (g L s ty : Int) (hk : ty = 2) : LCall Try.prog ⟨0, [], paC b g L s, [], []⟩ 24 [.bx 3 0, .v (.int .u16 ty)] (fun st' r => st'.ch = paC b g L s ∧ r = .mv 42 [.bx 3 0] []) := by
  subst hk
  refine lcall_exec (cf := cf) cfok (fn := Try.f24) Try.func24 rfl _ _ (paC b g L s) (.mv 42 [.bx 3 0] []) rfl rfl (by simp [svOkL, svOk]) rfl (by exact ⟨trivial, ⟨Nat.le_refl _, rfl⟩, trivial, trivial, trivial⟩) rfl rfl ?_
  refine And.intro (fun h => absurd (of_decide_eq_true h) (by decide)) (fun _ => ?_)
  refine And.intro (fun _ => ?_) (fun h => absurd rfl (of_decide_eq_false h))
  exact ⟨[0, 1, 2, 3], rfl, rfl, rfl, (And.intro (And.intro rfl rfl) (And.intro rfl (And.intro (And.intro rfl rfl) (And.intro (And.intro rfl rfl) trivial)))), rfl⟩
theorem by_3 (b : List Int) (g L s ty : Int) (hk : ty = 3) : LCall Try.prog ⟨0, [], paC b g L s, [], []⟩ 24 [.bx 3 0, .v (.int .u16 ty)] (fun st' r => st'.ch = paC b g L s ∧ r = .mv 43 [.bx 3 0] []) := by
  subst hk
  refine lcall_exec (cf := cf) cfok (fn := Try.f24) Try.func24 rfl _ _ (paC b g L s) (.mv 43 [.bx 3 0] []) rfl rfl (by simp [svOkL, svOk]) rfl (by exact ⟨trivial, ⟨Nat.le_refl _, rfl⟩, trivial, trivial, trivial⟩) rfl rfl ?_
  refine And.intro (fun h => absurd (of_decide_eq_true h) (by decide)) (fun _ => ?_)
  refine And.intro (fun h => absurd (of_decide_eq_true h) (by decide)) (fun _ => ?_)
  refine And.intro (fun _ => ?_) (fun h => absurd rfl (of_decide_eq_false h))
  exact ⟨[0, 1, 2, 3], rfl, rfl, rfl, (And.intro (And.intro rfl rfl) (And.intro rfl (And.intro (And.intro rfl rfl) (And.intro (And.intro rfl rfl) trivial)))), rfl⟩
theorem by_4 (b : List Int) (g L s ty : Int) (hk : ty = 4) : LCall Try.prog ⟨0, [], paC b g L s, [], []⟩ 24 [.bx 3 0, .v (.int .u16 ty)] (fun st' r => st'.ch = paC b g L s ∧ r = .mv 44 [.bx 3 0] []) := by
  subst hk
  refine lcall_exec (cf := cf) cfok (fn := Try.f24) Try.func24 rfl _ _ (paC b g L s) (.mv 44 [.bx 3 0] []) rfl rfl (by simp [svOkL, svOk]) rfl (by exact ⟨trivial, ⟨Nat.le_refl _, rfl⟩, trivial, trivial, trivial⟩) rfl rfl ?_
  refine And.intro (fun h => absurd (of_decide_eq_true h) (by decide)) (fun _ => ?_)
  refine And.intro (fun h => absurd (of_decide_eq_true h) (by decide)) (fun _ => ?_)
  refine And.intro (fun h => absurd (of_decide_eq_true h) (by decide)) (fun _ => ?_)
  refine And.intro (fun _ => ?_) (fun h => absurd rfl (of_decide_eq_false h))
  exact ⟨[0, 1, 2, 3], rfl, rfl, rfl, (And.intro (And.intro rfl rfl) (And.intro rfl (And.intro (And.intro rfl rfl) (And.intro (And.intro rfl rfl) trivial)))), rfl⟩
theorem by_6 (b : List Int) (g L s ty : Int) (hk : ty = 6) : LCall Try.prog ⟨0, [], paC b g L s, [], []⟩ 24 [.bx 3 0, .v (.int .u16 ty)] (fun st' r => st'.ch = paC b g L s ∧ r = .mv 45 [.bx 3 0] []) := by
  subst hk
  refine lcall_exec (cf := cf) cfok (fn := Try.f24) Try.func24 rfl _ _ (paC b g L s) (.mv 45 [.bx 3 0] []) rfl rfl (by simp [svOkL, svOk]) rfl (by exact ⟨trivial, ⟨Nat.le_refl _, rfl⟩, trivial, trivial, trivial⟩) rfl rfl ?_
  refine And.intro (fun h => absurd (of_decide_eq_true h) (by decide)) (fun _ => ?_)
  refine And.intro (fun h => absurd (of_decide_eq_true h) (by decide)) (fun _ => ?_)
  refine And.intro (fun h => absurd (of_decide_eq_true h) (by decide)) (fun _ => ?_)
  refine And.intro (fun h => absurd (of_decide_eq_true h) (by decide)) (fun _ => ?_)
  refine And.intro (fun _ => ?_) (fun h => absurd rfl (of_decide_eq_false h))
  exact ⟨[0, 1, 2, 3], rfl, rfl, rfl, (And.intro (And.intro rfl rfl) (And.intro rfl (And.intro (And.intro rfl rfl) (And.intro (And.intro rfl rfl) trivial)))), rfl⟩
theorem by_no (b : List Int) (g L s ty : Int) (hk : ¬ (ty = 1 ∨ ty = 2 ∨ ty = 3 ∨ ty = 4 ∨ ty = 6)) : LCall Try.prog ⟨0, [], paC b g L s, [], []⟩ 24 [.bx 3 0, .v (.int .u16 ty)] (fun st' r => False ∧ st'.ch = paC b g L s ∧ r = .v undef) (fun pc' st' => True ∧ st'.ch = deC b ∧ pc' = wrongP) := by
  refine lcall_execP (cf := cf) cfok (fn := Try.f24) Try.func24 rfl _ _ _ (paC b g L s) (.v undef) _ (deC b) wrongP rfl rfl (by simp [svOkL, svOk]) rfl (by exact ⟨trivial, ⟨Nat.le_refl _, rfl⟩, trivial, trivial, trivial⟩) (by exact ⟨trivial, ⟨Nat.le_refl _, rfl⟩, trivial, trivial, trivial⟩) rfl rfl rfl ?_
  refine And.intro (fun h => absurd (.inl (of_decide_eq_true h)) hk) (fun _ => ?_)
  refine And.intro (fun h => absurd (.inr (.inl (of_decide_eq_true h))) hk) (fun _ => ?_)
  refine And.intro (fun h => absurd (.inr (.inr (.inl (of_decide_eq_true h)))) hk) (fun _ => ?_)
  refine And.intro (fun h => absurd (.inr (.inr (.inr (.inl (of_decide_eq_true h))))) hk) (fun _ => ?_)
  refine And.intro (fun h => absurd (.inr (.inr (.inr (.inr (of_decide_eq_true h))))) hk) (fun _ => ?_)
  exact ⟨trivial, rfl, [0, 1, 2, 3], rfl, rfl, rfl, And.intro trivial (And.intro rfl (And.intro trivial (And.intro trivial trivial)))⟩

/-- a subtable -/
inductive SubX where
  | one (ps : List Pair)
  | many (ms : List Many)
  | lig (ls : List Lig)
  | ch (c : Chn)
instance : Inhabited SubX := ⟨.one []⟩
abbrev nilD : DV := .v (.slice none 0 0)
def suE : SubX → List DV
  | .one ps => [.sl Pair inferInstance 2 paiE ps, nilD, nilD, nilD, nilD, nilD, nilD]
  | .many ms => [nilD, .sl Many inferInstance 2 manE ms, nilD, nilD, nilD, nilD, nilD]
  | .lig ls => [nilD, nilD, .sl Lig inferInstance 2 ligE ls, nilD, nilD, nilD, nilD]
  | .ch c => [nilD, nilD, nilD, .sl (List Int) inferInstance 1 setE c.bk, .sl (List Int) inferInstance 1 setE c.inn, .sl (List Int) inferInstance 1 setE c.ah, .sl Rec inferInstance 2 recE c.rs]
structure Lk where
  ty : Int
  flag : Int
  subs : List SubX
deriving Inhabited
abbrev lkE : Lk → List DV := fun x => [.v (.int .u16 x.ty), .v (.int .u16 x.flag), .sl SubX inferInstance 7 suE x.subs, nilD]
abbrev owSu (xs : List SubX) : Chunk := .own 43 SubX inferInstance 7 suE xs
abbrev owLk (xs : List Lk) : Chunk := .own 35 Lk inferInstance 4 lkE xs
theorem owSue {a b : List SubX} (h : a = b) : owSu a = owSu b := by rw [h]
theorem owLke {a b : List Lk} (h : a = b) : owLk a = owLk b := by rw [h]
def known (ty : Int) : Prop := ty = 1 ∨ ty = 2 ∨ ty = 3 ∨ ty = 4 ∨ ty = 6
instance (ty : Int) : Decidable (known ty) := by unfold known; infer_instance
def subX (b : List Int) (g L ty a s : Int) : Option (SubX × Int) :=
  if ty = 1 then (match singleX b g a s with | none => none | some (p, s') => some (.one p, s'))
  else if ty = 2 then (match muX b g a s with | none => none | some (p, s') => some (.many p, s'))
  else if ty = 3 then (match alX b g a s with | none => none | some (p, s') => some (.one p, s'))
  else if ty = 4 then (match ligX b g a s with | none => none | some (p, s') => some (.lig p, s'))
  else (match chainX b g L a s with | none => none | some (p, s') => some (.ch p, s'))
def sLoop (b : List Int) (g L ty : Int) : List Int → Int → List SubX → Option (List SubX)
  | [], _, acc => some acc
  | a :: r, s, acc => match subX b g L ty a s with
    | none => none
    | some (p, s') => sLoop b g L ty r s' (acc ++ [p])
def lLoop (b : List Int) (g L : Int) : List Tab → List Lk → Option (List Lk)
  | [], acc => some acc
  | t :: r, acc =>
    if known t.ty then
      (match sLoop b g L t.ty t.at' 0 [] with
      | none => none
      | some ps => lLoop b g L r (acc ++ [⟨t.ty, t.flag, ps⟩]))
    else none
def tailX (r : Option (List Lk)) (fs : List Feat) : Option (List Lk × List Feat) :=
  match r with
  | none => none
  | some ls => some (ls, fs)
def parseX (b : List Int) (g : Int) : Option (List Lk × List Feat) :=
  if ¬ (b.length : Int) ≥ 10 then none else if ¬ wA b 0 = 1 then none else if ¬ wA b 2 = 0 then none
  else match lookX b (wA b 8) with
  | none => none
  | some ts => match featX b (wA b 6) (ts.length : Int) with
    | none => none
    | some fs => tailX (lLoop b g (ts.length : Int) ts []) fs
def parC (b : List Int) (X : Option (List Lk × List Feat)) : List Chunk := deadC b ++ (match X with | none => [] | some (ls, fs) => [owLk ls, owF fs])
def parR (X : Option (List Lk × List Feat)) : SV := match X with | none => .tup [nilS, nilS, .v (.int .i64 50)] | some _ => .tup [.sl 3, .sl 4, .v (.int .i64 0)]
theorem rec_r (ls : List Lk) (fs : List Feat) : DCall Try.prog ⟨0, [], [.bx 24 [.sl 3], .bx 25 [.sl 4], .bx 26 [.v (.int .i64 0)], owLk ls, owF fs], [], []⟩ 17 [.bx 0 0, .bx 1 0, .bx 2 0] .returning (fun u' st' => st'.ch = [.bx 24 [.sl 3], .bx 25 [.sl 4], .bx 26 [.v (.int .i64 0)], owLk ls, owF fs] ∧ u' = .returning) := by
  refine dcall_rec (cf := cf) cfok (fn := Try.f17) Try.func17 rfl rfl rfl rfl rfl rfl rfl rfl rfl rfl [.bx 0 0, .bx 1 0, .bx 2 0] [.bx 24 [.sl 3], .bx 25 [.sl 4], .bx 26 [.v (.int .i64 0)], owLk ls, owF fs] [.bx 24 [.sl 3], .bx 25 [.sl 4], .bx 26 [.v (.int .i64 0)], owLk ls, owF fs] .returning .nilIface rfl rfl rfl (by simp [svOkL, svOk]) rfl (by exact ⟨trivial, trivial, trivial, ⟨Nat.le_refl _, rfl⟩, ⟨Nat.le_refl _, rfl⟩, trivial⟩) rfl ?_
  refine ⟨.bool false, pure_neqNil (by kernel_rfl) rfl false (.inl ⟨rfl, rfl⟩), ?_⟩
  refine And.intro (fun h => by cases h) (fun _ => ?_)
  exact And.intro rfl ⟨[0, 1, 2, 3, 4], rfl, rfl, rfl, And.intro (And.intro rfl rfl) (And.intro (And.intro rfl rfl) (And.intro (And.intro rfl rfl) (And.intro rfl (And.intro rfl trivial))))⟩
theorem tab_ats {b : List Int} {a : Int} {ts : List Tab} (hB : Byt b) (hb : b.length ≤ 100000) (h : lookX b a = some ts) : ts.length ≤ 256 ∧ ∀ t ∈ ts, t.at'.length ≤ 65535 ∧ (∀ x ∈ t.at', 0 ≤ x ∧ x ≤ 1000000) ∧ 0 ≤ t.ty ∧ t.ty ≤ 65535 := by
  unfold lookX at h
  split at h
  · cases h
  · split at h
    · cases h
    · split at h
      · rename_i h1 h2 h3
        have e := Option.some.inj h
        have h0 : 0 ≤ a ∧ a + 2 ≤ (b.length : Int) := by
          have : outR b a 2 = false := by simpa using h1
          have := outR_iff.1 this
          omega
        subst e
        refine ⟨by rw [List.length_map, List.length_range]; omega, fun t ht => ?_⟩
        obtain ⟨i, hi, rfl⟩ := List.mem_map.1 ht
        have hk := w2_range (hB.drop (lkT b a i).toNat) 4
        have hty := w2_range (hB.drop (lkT b a i).toNat) 0
        have hti := w2_range (hB.drop a.toNat) (2 + 2 * i)
        refine ⟨by unfold lkAt lkK; rw [List.length_map, List.length_range]; omega, fun x hx => ?_, hty.1, hty.2⟩
        unfold lkAt at hx
        obtain ⟨j, _, rfl⟩ := List.mem_map.1 hx
        have hj := w2_range (hB.drop (lkT b a i).toNat) (6 + 2 * j)
        unfold lkT at *
        omega
      · cases h
structure St1 (b : List Int) (g : Int) (ts : List Tab) (fs : List Feat) (X : Option (List Lk × List Feat)) where
  i : Nat
  acc : List Lk
  hi : i ≤ ts.length
  hl : acc.length = i
  e : tailX (lLoop b g (ts.length : Int) (ts.drop i) acc) fs = X
structure St2 (b : List Int) (g : Int) (ts : List Tab) (fs : List Feat) (t : Tab) (i : Nat) (acc0 : List Lk) (X : Option (List Lk × List Feat)) where
  j : Nat
  s : Int
  acc : List SubX
  hj : j ≤ t.at'.length
  hs : 0 ≤ s ∧ s ≤ 65536
  hl : acc.length = j
  e : tailX (match sLoop b g (ts.length : Int) t.ty (t.at'.drop j) s acc with | none => none | some ps => lLoop b g (ts.length : Int) (ts.drop (i + 1)) (acc0 ++ [⟨t.ty, t.flag, ps⟩])) fs = X
theorem siLoop_rng {b : List Int} {g a f n : Int} : ∀ (l : List Int) (i : Nat) (s : Int) (acc : List Pair) (r : List Pair × Int), 0 ≤ s ∧ s ≤ 65536 → siLoop b g a f n l i s acc = some r → 0 ≤ r.2 ∧ r.2 ≤ 65536
  | [], _, s, acc, r, hs, h => by cases h; exact hs
  | G :: l, i, s, acc, r, hs, h => by
    rw [siLoop] at h
    split at h
    · cases h
    · split at h
      · cases h
      · rename_i hh
        have := Decidable.not_not.1 hh
        exact siLoop_rng l _ _ _ r ⟨by omega, this.1⟩ h
theorem single_rng {b : List Int} {g a s : Int} {p : List Pair} {s' : Int} (hs : 0 ≤ s ∧ s ≤ 65536) (h : singleX b g a s = some (p, s')) : 0 ≤ s' ∧ s' ≤ 65536 := by
  unfold singleX at h
  split at h
  · cases h
  · rename_i l s1 hset
    obtain ⟨_, h2, h3, _, _⟩ := set2_len hset
    unfold singleT at h
    repeat (split at h; · cases h)
    exact siLoop_rng _ _ _ _ _ ⟨by omega, h3⟩ h
theorem muLoop_rng {b : List Int} (hB : Byt b) {g : Int} : ∀ (l ps : List Int) (s : Int) (acc : List Many) (r : List Many × Int), 0 ≤ s ∧ s ≤ 65536 → muLoop b g l ps s acc = some r → 0 ≤ r.2 ∧ r.2 ≤ 65536
  | [], _, s, acc, r, hs, h => by cases h; exact hs
  | _ :: _, [], s, acc, r, hs, h => by cases h; exact hs
  | G :: l, p :: ps, s, acc, r, hs, h => by
    rw [muLoop] at h
    split at h
    · cases h
    · rename_i t s' hh
      obtain ⟨h1, _, h3, h4⟩ := some_len hB hs.2 hh
      exact muLoop_rng hB l ps _ _ r ⟨by simp only at h3; omega, h4⟩ h
theorem alLoop_rng {b : List Int} (hB : Byt b) {g : Int} : ∀ (l ps : List Int) (s : Int) (acc : List Pair) (r : List Pair × Int), 0 ≤ s ∧ s ≤ 65536 → alLoop b g l ps s acc = some r → 0 ≤ r.2 ∧ r.2 ≤ 65536
  | [], _, s, acc, r, hs, h => by cases h; exact hs
  | _ :: _, [], s, acc, r, hs, h => by cases h; exact hs
  | G :: l, p :: ps, s, acc, r, hs, h => by
    rw [alLoop] at h
    split at h
    · cases h
    · rename_i t s' hh
      obtain ⟨h1, _, h3, h4⟩ := some_len hB hs.2 hh
      exact alLoop_rng hB l ps _ _ r ⟨by simp only at h3; omega, h4⟩ h
theorem mu_rng {b : List Int} (hB : Byt b) {g a s : Int} (ha : 0 ≤ a) {p : List Many} {s' : Int} (hs : 0 ≤ s ∧ s ≤ 65536) (h : muX b g a s = some (p, s')) : 0 ≤ s' ∧ s' ≤ 65536 := by
  unfold muX at h
  split at h
  · cases h
  · rename_i l ps s1 hset
    obtain ⟨_, _, h2, h3, _⟩ := rows_len hB ha hset
    exact muLoop_rng hB _ _ _ _ _ ⟨by omega, h3⟩ h
theorem al_rng {b : List Int} (hB : Byt b) {g a s : Int} (ha : 0 ≤ a) {p : List Pair} {s' : Int} (hs : 0 ≤ s ∧ s ≤ 65536) (h : alX b g a s = some (p, s')) : 0 ≤ s' ∧ s' ≤ 65536 := by
  unfold alX at h
  split at h
  · cases h
  · rename_i l ps s1 hset
    obtain ⟨_, _, h2, h3, _⟩ := rows_len hB ha hset
    exact alLoop_rng hB _ _ _ _ _ ⟨by omega, h3⟩ h
theorem lgI_rng {b : List Int} {g p G : Int} : ∀ (m k : Nat) (s : Int) (acc : List Lig) (r : List Lig × Int), 0 ≤ s ∧ s ≤ 65536 → lgI b g p G m k s acc = some r → 0 ≤ r.2 ∧ r.2 ≤ 65536
  | 0, _, s, acc, r, hs, h => by cases h; exact hs
  | m + 1, k, s, acc, r, hs, h => by
    rw [lgI] at h
    split at h
    · cases h
    · split at h
      · cases h
      · split at h
        · cases h
        · split at h
          · cases h
          · split at h
            · cases h
            · rename_i h8
              split at h
              · cases h
              · rename_i l s' hr
                obtain ⟨_, h4, h5⟩ := row_rng _ _ _ _ _ hr
                simp only at h4 h5
                exact lgI_rng m _ _ _ r ⟨by omega, h5 (by omega)⟩ h
theorem lgO_rng {b : List Int} {g : Int} : ∀ (l ps : List Int) (s : Int) (acc : List Lig) (r : List Lig × Int), 0 ≤ s ∧ s ≤ 65536 → lgO b g l ps s acc = some r → 0 ≤ r.2 ∧ r.2 ≤ 65536
  | [], _, s, acc, r, hs, h => by cases h; exact hs
  | _ :: _, [], s, acc, r, hs, h => by cases h; exact hs
  | G :: l, p :: ps, s, acc, r, hs, h => by
    rw [lgO] at h
    split at h
    · cases h
    · split at h
      · cases h
      · split at h
        · cases h
        · rename_i acc' s' hh
          exact lgO_rng l ps _ _ r (lgI_rng _ _ _ _ _ hs hh) h
theorem lig_rng {b : List Int} (hB : Byt b) {g a s : Int} (ha : 0 ≤ a) {p : List Lig} {s' : Int} (hs : 0 ≤ s ∧ s ≤ 65536) (h : ligX b g a s = some (p, s')) : 0 ≤ s' ∧ s' ≤ 65536 := by
  unfold ligX at h
  split at h
  · cases h
  · rename_i l ps s1 hset
    obtain ⟨_, _, h2, h3, _⟩ := rows_len hB ha hset
    exact lgO_rng _ _ _ _ _ ⟨by omega, h3⟩ h
theorem chain_rng {b : List Int} (hB : Byt b) {g L a s : Int} {p : Chn} {s' : Int} (hs : 0 ≤ s ∧ s ≤ 65536) (h : chainX b g L a s = some (p, s')) : 0 ≤ s' ∧ s' ≤ 65536 := by
  unfold chainX at h
  repeat (split at h; · cases h)
  rename_i bk t1 s1 h1 _ inn t2 s2 h2 _ ah t3 s3 h3
  obtain ⟨_, _, a1, a2, _⟩ := setsX_len hB hs h1
  obtain ⟨_, _, b1, b2, _⟩ := setsX_len hB ⟨a1, a2⟩ h2
  obtain ⟨_, _, c1, c2, _⟩ := setsX_len hB ⟨b1, b2⟩ h3
  unfold chT at h
  repeat (split at h; · cases h)
  cases h
  exact ⟨c1, c2⟩
theorem failX {b : List Int} {X : Option (List Lk × List Feat)} {ρ ρ1 : Nat → Value} {S S1 : Nat → Prop} {w w' : World} {st' : Eng.St} {l : List SV} (hX : X = none) (hm : MemOk ⟨0, [], rdC b false, [], []⟩ ρ S w) (hi : Inv (cxL (rdC b false) ρ S w) st' ρ1 S1 w') (hbs : st'.bs = [])
    (hle : chsLe st'.ch [0, 1, 2] (deadC b) [0, 1, 2] (deadC b)) (hl : retSV l = .tup [nilS, nilS, .v (.int .i64 50)]) : LEnd (rdC b false) (parC b X) (parR X) ρ S w (.returned (retVal ρ1 l)) w' := by
  subst hX
  exact lend [0, 1, 2] hm hi hbs rfl (by exact ⟨trivial, ⟨Nat.le_refl _, rfl⟩, trivial, trivial⟩) rfl rfl rfl rfl hle hl
end Go.Proofs.Ytalploampmdemaa
