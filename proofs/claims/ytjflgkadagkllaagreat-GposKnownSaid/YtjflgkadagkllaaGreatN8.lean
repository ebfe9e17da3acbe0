/- gpos.Parse. -/
import Derived.Test.YtjflgkadagkllaaGreatN7
set_option maxRecDepth 100000
set_option linter.unusedVariables false
namespace Go.Proofs.YtjflgkadagkllaaGreat
open Go Go.Eng Go.RowKit
inductive PosX where
 | k (ks : List Kern)
 | m (ms : List Mark) (bs : List Base)
instance : Inhabited PosX := ⟨.k []⟩
abbrev nilD : DV := .v (.slice none 0 0)
def poE : PosX -> List DV
 | .k ks => [.sl Kern inferInstance 3 keE ks, nilD, nilD]
 | .m ms bs => [nilD, .sl Mark inferInstance 4 maE ms, .sl Base inferInstance 2 baE bs]
structure Lk where
 ty : Int
 flag : Int
 poss : List PosX
deriving Inhabited
abbrev lkE : Lk -> List DV := fun x => [.v (.int .u16 x.ty), .v (.int .u16 x.flag), nilD, .sl PosX inferInstance 3 poE x.poss]
abbrev owP (xs : List PosX) : Chunk := .own 42 PosX inferInstance 3 poE xs
abbrev owLk (xs : List Lk) : Chunk := .own 53 Lk inferInstance 4 lkE xs
theorem owPe {a b : List PosX} (h : a = b) : owP a = owP b := by rw [h]
theorem owLke {a b : List Lk} (h : a = b) : owLk a = owLk b := by rw [h]
def posX (b : List Int) (g ty a s : Int) : Option (PosX × Int) :=
 if ty = 2 then (match pairsX b g a s with | none => none | some (ks, s') => some (.k ks, s'))
 else (match marksX b g a s with | none => none | some (ms, bs, s') => some (.m ms bs, s'))
def sLoop (b : List Int) (g ty : Int) : List Int -> Int -> List PosX -> Option (List PosX)
 | [], _, acc => some acc
 | a :: r, s, acc => match posX b g ty a s with
  | none => none
  | some (p, s') => sLoop b g ty r s' (acc ++ [p])
def lLoop (b : List Int) (g : Int) : List Tab -> List Lk -> Option (List Lk)
 | [], acc => some acc
 | t :: r, acc =>
  if t.ty = 2 \/ t.ty = 4 \/ t.ty = 6 then
   (match sLoop b g t.ty t.at' 0 [] with
   | none => none
   | some ps => lLoop b g r (acc ++ [⟨t.ty, t.flag, ps⟩]))
  else none
def tailX (b : List Int) (g : Int) (ts : List Tab) (fs : List Feat) (r : Option (List Lk)) : Option (List Lk × List Feat) :=
 match r with
 | none => none
 | some ls => some (ls, fs)
def parseX (b : List Int) (g : Int) : Option (List Lk × List Feat) :=
 if ¬ (b.length : Int) >= 10 then none else if ¬ wA b 0 = 1 then none else if ¬ wA b 2 = 0 then none
 else match lookX b (wA b 8) with
 | none => none
 | some ts => match featX b (wA b 6) (ts.length : Int) with
  | none => none
  | some fs => tailX b g ts fs (lLoop b g ts [])
def parC (b : List Int) (X : Option (List Lk × List Feat)) : List Chunk := deadC b ++ (match X with | none => [] | some (ls, fs) => [owLk ls, owF fs])
def parR (X : Option (List Lk × List Feat)) : SV := match X with | none => .tup [nilS, nilS, .v (.int .i64 50)] | some _ => .tup [.sl 3, .sl 4, .v (.int .i64 0)]
theorem rec_r (ls : List Lk) (fs : List Feat) : DCall Tryz.prog ⟨0, [], [.bx 22 [.sl 3], .bx 23 [.sl 4], .bx 71 [.v (.int .i64 0)], owLk ls, owF fs], [], []⟩ 32 [.bx 0 0, .bx 1 0, .bx 2 0] .returning (fun u' st' => st'.ch = [.bx 22 [.sl 3], .bx 23 [.sl 4], .bx 71 [.v (.int .i64 0)], owLk ls, owF fs] /\ u' = .returning) := by
 refine dcall_rec (cf := cf) cfok (fn := Tryz.f32) Tryz.func32 rfl rfl rfl rfl rfl rfl rfl rfl rfl rfl [.bx 0 0, .bx 1 0, .bx 2 0] [.bx 22 [.sl 3], .bx 23 [.sl 4], .bx 71 [.v (.int .i64 0)], owLk ls, owF fs] [.bx 22 [.sl 3], .bx 23 [.sl 4], .bx 71 [.v (.int .i64 0)], owLk ls, owF fs] .returning .nilIface rfl rfl rfl (by simp [svOkL, svOk]) rfl (by exact ⟨trivial, trivial, trivial, ⟨Nat.le_refl _, rfl⟩, ⟨Nat.le_refl _, rfl⟩, trivial⟩) rfl ?_
 refine ⟨.bool false, pure_neqNil (by kernel_rfl) rfl false (.inl ⟨rfl, rfl⟩), ?_⟩
 refine aI (fun h => by cases h) (fun _ => ?_)
 exact aI rfl ⟨[0, 1, 2, 3, 4], rfl, rfl, rfl, aI (aI rfl rfl) (aI (aI rfl rfl) (aI (aI rfl rfl) (aI rfl (aI rfl trivial))))⟩
theorem tab_ats {b : List Int} {a : Int} {ts : List Tab} (hB : Byt b) (hb : b.length <= 100000) (h : lookX b a = some ts) : ts.length <= 256 /\ ∀ t ∈ ts, t.at'.length <= 65535 /\ (∀ x ∈ t.at', 0 <= x /\ x <= 1000000) /\ 0 <= t.ty /\ t.ty <= 65535 := by
 unfold lookX at h
 split at h
 · cases h
 · split at h
   · cases h
   · split at h
     · rename_i h1 h2 h3
       have e := Option.some.inj h
       have h0 : 0 <= a /\ a + 2 <= (b.length : Int) := by
        have : outR b a 2 = false := by simpa using h1
        have := outR_iff.1 this
        omega
       subst e
       refine ⟨by rw [List.length_map, List.length_range]; omega, fun t ht => ?_⟩
       obtain ⟨i, hi, rfl⟩ := List.mem_map.1 ht
       have hk := w2_range (hB.drop (lkT b a i).toNat) 4
       have hty := w2_range (hB.drop (lkT b a i).toNat) 0
       have hti := w2_range (hB.drop a.toNat) (2 + 2 * i)
       refine ⟨by unfold lkAt lkK; rw [List.length_map, List.length_range]; omega, fun x hx => ?_, hty.1, hty.2⟩
       unfold lkAt at hx
       obtain ⟨j, _, rfl⟩ := List.mem_map.1 hx
       have hj := w2_range (hB.drop (lkT b a i).toNat) (6 + 2 * j)
       unfold lkT at *
       omega
     · cases h
structure St1 (b : List Int) (g : Int) (ts : List Tab) (fs : List Feat) (X : Option (List Lk × List Feat)) where
 i : Nat
 acc : List Lk
 hi : i <= ts.length
 hl : acc.length = i
 e : tailX b g ts fs (lLoop b g (ts.drop i) acc) = X
structure St2 (b : List Int) (g : Int) (ts : List Tab) (fs : List Feat) (t : Tab) (i : Nat) (acc0 : List Lk) (X : Option (List Lk × List Feat)) where
 j : Nat
 s : Int
 acc : List PosX
 hj : j <= t.at'.length
 hs : 0 <= s /\ s <= 65536
 hl : acc.length = j
 e : tailX b g ts fs (match sLoop b g t.ty (t.at'.drop j) s acc with | none => none | some ps => lLoop b g (ts.drop (i + 1)) (acc0 ++ [⟨t.ty, t.flag, ps⟩])) = X
theorem failX {b : List Int} {X : Option (List Lk × List Feat)} {ρ ρ1 : Nat -> Value} {S S1 : Nat -> Prop} {w w' : World} {st' : Eng.St} {l : List SV} (hX : X = none) (hm : MemOk ⟨0, [], rdC b false, [], []⟩ ρ S w) (hi : Inv (cxL (rdC b false) ρ S w) st' ρ1 S1 w') (hbs : st'.bs = [])
 (hle : chsLe st'.ch [0, 1, 2] (deadC b) [0, 1, 2] (deadC b)) (hl : retSV l = .tup [nilS, nilS, .v (.int .i64 50)]) : LEnd (rdC b false) (parC b X) (parR X) ρ S w (.returned (retVal ρ1 l)) w' := by
 subst hX
 exact lend [0, 1, 2] hm hi hbs rfl (by exact ⟨trivial, ⟨Nat.le_refl _, rfl⟩, trivial, trivial⟩) rfl rfl rfl rfl hle hl
theorem setX_rng {b : List Int} {g a s : Int} {r : List Int × Int} (hs : 0 <= s /\ s <= 65536) (h : setX b g a s = some r) : 0 <= r.2 /\ r.2 <= 65536 := by
 obtain ⟨_, h1, h2, h3, _⟩ := setX_len h
 omega
theorem kLoop_rng {b : List Int} {g t A : Int} : ∀ (m j : Nat) (last s : Int) (acc : List Kern) (r : List Kern × Int), 0 <= s /\ s <= 65536 -> kLoop b g t A m j last s acc = some r -> 0 <= r.2 /\ r.2 <= 65536
 | 0, _, _, s, acc, r, hs, h => by cases h; exact hs
 | m + 1, j, last, s, acc, r, hs, h => by
  rw [kLoop] at h
  split at h
  · cases h
  · split at h
    · cases h
    · split at h
      · cases h
      · split at h
        · cases h
        · exact kLoop_rng m _ _ _ _ r ⟨by omega, by omega⟩ h
theorem pLoop_rng {b : List Int} {g a : Int} : ∀ (l : List Int) (i : Nat) (s : Int) (acc : List Kern) (r : List Kern × Int), 0 <= s /\ s <= 65536 -> pLoop b g a l i s acc = some r -> 0 <= r.2 /\ r.2 <= 65536
 | [], _, s, acc, r, hs, h => by cases h; exact hs
 | A :: l, i, s, acc, r, hs, h => by
  rw [pLoop] at h
  split at h
  · cases h
  · split at h
    · cases h
    · split at h
      · cases h
      · split at h
        · cases h
        · rename_i acc' s' hk
          exact pLoop_rng l _ _ _ r (kLoop_rng _ _ _ _ _ _ hs hk) h
theorem pairs_rng {b : List Int} {g a s : Int} {ks : List Kern} {s' : Int} (hs : 0 <= s /\ s <= 65536) (h : pairsX b g a s = some (ks, s')) : 0 <= s' /\ s' <= 65536 := by
 unfold pairsX at h
 split at h
 · cases h
 · split at h
   · cases h
   · rename_i l s1 hset
     repeat (split at h; · cases h)
     exact pLoop_rng _ _ _ _ _ (setX_rng hs hset) h
theorem point_rng {b : List Int} {a s : Int} {x y s' : Int} (hs : 0 <= s /\ s <= 65536) (h : pointX b a s = some (x, y, s')) : 0 <= s' /\ s' <= 65536 := by
 have := pointX_s h
 simp only at this
 omega
theorem mLoop_rng {b : List Int} {n f : Int} : ∀ (l : List Int) (i : Nat) (s : Int) (acc : List Mark) (r : List Mark × Int), 0 <= s /\ s <= 65536 -> mLoop b n f l i s acc = some r -> 0 <= r.2 /\ r.2 <= 65536
 | [], _, s, acc, r, hs, h => by cases h; exact hs
 | A :: l, i, s, acc, r, hs, h => by
  rw [mLoop] at h
  split at h
  · cases h
  · split at h
    · cases h
    · split at h
      · cases h
      · split at h
        · cases h
        · rename_i x y s' hp
          exact mLoop_rng l _ _ _ r (point_rng hs hp) h
theorem aLoop_rng {b : List Int} {e : Int} {n i : Nat} : ∀ (m k : Nat) (s : Int) (acc : List Anchor) (r : List Anchor × Int), 0 <= s /\ s <= 65536 -> aLoop b e n i m k s acc = some r -> 0 <= r.2 /\ r.2 <= 65536
 | 0, _, s, acc, r, hs, h => by cases h; exact hs
 | m + 1, k, s, acc, r, hs, h => by
  rw [aLoop] at h
  split at h
  · cases h
  · split at h
    · split at h
      · cases h
      · exact aLoop_rng m _ _ _ r ⟨by omega, by omega⟩ h
    · split at h
      · cases h
      · rename_i x y s' hp
        exact aLoop_rng m _ _ _ r (point_rng hs hp) h
theorem bLoop_rng {b : List Int} {e : Int} {n : Nat} : ∀ (l : List Int) (i : Nat) (s : Int) (acc : List Base) (r : List Base × Int), 0 <= s /\ s <= 65536 -> bLoop b e n l i s acc = some r -> 0 <= r.2 /\ r.2 <= 65536
 | [], _, s, acc, r, hs, h => by cases h; exact hs
 | A :: l, i, s, acc, r, hs, h => by
  rw [bLoop] at h
  split at h
  · cases h
  · rename_i an s' hk
    exact bLoop_rng l _ _ _ r (aLoop_rng _ _ _ _ _ hs hk) h
theorem marks_rng {b : List Int} {g a s : Int} {ms : List Mark} {bs : List Base} {s' : Int} (hs : 0 <= s /\ s <= 65536) (h : marksX b g a s = some (ms, bs, s')) : 0 <= s' /\ s' <= 65536 := by
 unfold marksX at h
 split at h
 · cases h
 · split at h
   · cases h
   · rename_i m s1 hset
     split at h
     · cases h
     · split at h
       · cases h
       · rename_i bb s2 hset2
         unfold headX at h
         repeat (split at h; · cases h)
         unfold endX at h
         split at h
         · cases h
         · rename_i ms' s3 hm
           split at h
           · cases h
           · rename_i bs' s4 hb
             cases h
             exact bLoop_rng _ _ _ _ _ (mLoop_rng _ _ _ _ _ (setX_rng (setX_rng hs hset) hset2) hm) hb
set_option maxHeartbeats 2000000 in
theorem parse_s (b : List Int) (g : Int) (hB : Byt b) (hb : b.length <= 100000) (X : Option (List Lk × List Feat)) (hX : parseX b g = X) : LCall Tryz.prog ⟨0, [], rdC b false, [], []⟩ 16 [.bx 2 0, .v (.int .i64 g)] (fun st' s => st'.ch = parC b X /\ s = parR X) := by
 refine lcall_execD (cf := cf) cfok (fn := Tryz.f16) Tryz.func16 rfl _ _ (parC b X) (parR X) rfl rfl (by simp [svOkL, svOk]) rfl (fun ρ0 S0 w0 hm0 => ?_)
 have w0r := wA_range hB 0
 have w2r := wA_range hB 2
 have w6r := wA_range hB 6
 have w8r := wA_range hB 8
 refine Or.inl ⟨.bool false, fun ρ S w hm => bad_c b _ w (hm.rep 40 (.bx 2 0) (.ptr (rdD b)) rfl rfl), ?_⟩
 refine Or.inl ⟨.int .i64 (b.length : Nat), fun _ ρ S w hm => len_c b _ w (hm.rep 40 (.bx 2 0) (.ptr (rdD b)) rfl rfl), ?_⟩
 refine Or.inl ⟨.int .u16 (wA b 0), fun hg ρ S w hm => by
  have hg : ((!false) && decide ((b.length : Int) >= 10)) = true := hg
  have hg := of_decide_eq_true (by rw [Bool.and_eq_true] at hg; exact hg.2)
  exact word_x b 0 0 0 hB (by omega) (by omega) (by omega) (by simp) _ w (hm.rep 40 (.bx 2 0) (.ptr (rdD b)) rfl rfl), ?_⟩
 refine Or.inl ⟨.int .u16 (wA b 2), fun hg ρ S w hm => by
  have hg : (((!false) && decide ((b.length : Int) >= 10)) && decide (wA b 0 = 1)) = true := hg
  have hg := of_decide_eq_true (by rw [Bool.and_eq_true, Bool.and_eq_true] at hg; exact hg.1.2)
  exact word_x b 2 2 0 hB (by omega) (by omega) (by omega) (by simp) _ w (hm.rep 40 (.bx 2 0) (.ptr (rdD b)) rfl rfl), ?_⟩
 refine Or.inr (lcall_need _ (fun h1 => ?_) (fun h1 => ?_))
 rotate_left
 · have h1 : ((((!false) && decide ((b.length : Int) >= 10)) && decide (wA b 0 = 1)) && decide (wA b 2 = 0)) = false := h1
   have hn : X = none := by
    rw [<- hX]
    unfold parseX
    by_cases c1 : (b.length : Int) >= 10
    · rw [if_neg (fun h => h c1)]
      by_cases c2 : wA b 0 = 1
      · rw [if_neg (fun h => h c2)]
        by_cases c3 : wA b 2 = 0
        · rw [decide_eq_true c1, decide_eq_true c2, decide_eq_true c3] at h1; cases h1
        · rw [if_pos c3]
      · rw [if_pos c2]
    · rw [if_pos c1]
   exact aI rfl (dcall_sub [4, 5, 6] (rec_a 0) rfl rfl rfl rfl rfl (aI (aI rfl rfl) (aI (aI rfl rfl) (aI (aI rfl rfl) trivial))) (fun ρ1 S1 w1 hi => failX hn hm0 hi rfl (aI trivial (aI rfl (aI trivial trivial))) rfl))
 have h1 : ((((!false) && decide ((b.length : Int) >= 10)) && decide (wA b 0 = 1)) && decide (wA b 2 = 0)) = true := h1
 rw [Bool.and_eq_true, Bool.and_eq_true, Bool.and_eq_true, decide_eq_true_iff, decide_eq_true_iff, decide_eq_true_iff] at h1
 obtain ⟨⟨⟨_, c1⟩, c2⟩, c3⟩ := h1
 unfold parseX at hX
 rw [if_neg (fun h => h c1), if_neg (fun h => h c2), if_neg (fun h => h c3)] at hX
 refine Or.inl ⟨.int .u16 (wA b 8), fun ρ S w hm => word_x b 8 8 0 hB (by omega) (by omega) (by omega) (by simp) _ w (hm.rep 40 (.bx 2 0) (.ptr (rdD b)) rfl rfl), ?_⟩
 have e8 : IntKind.i64.wrap (wA b 8) = wA b 8 := i64_id _ (by omega) (by omega)
 have e6 : IntKind.i64.wrap (wA b 6) = wA b 6 := i64_id _ (by omega) (by omega)
 cases hlk : lookX b (wA b 8) with
 | none =>
  rw [hlk] at hX
  refine Or.inr (lcall_sub [0, 1, 2] (look_no b (wA b 8) hB hb e8 hlk) (congrArg (fun z : Int => [SV.bx 2 0, .v (.int .i64 z)]) e8) rfl rfl rfl rfl (aI (aI rfl rfl) (aI rfl (aI (aI rfl rfl) trivial))) ?_)
  refine Or.inr (lcall_need _ (fun h => absurd (of_decide_eq_true h : (50 : Int) = 0) (by decide)) (fun _ => ?_))
  exact aI rfl (dcall_sub [4, 5, 6] (rec_a 50) rfl rfl rfl rfl rfl (aI (aI rfl rfl) (aI (aI rfl rfl) (aI (aI rfl rfl) trivial))) (fun ρ1 S1 w1 hi => failX hX.symm hm0 hi rfl (aI trivial (aI rfl (aI trivial trivial))) rfl))
 | some ts =>
 rw [hlk] at hX
 simp only at hX
 obtain ⟨hts, hat⟩ := tab_ats hB hb hlk
 refine Or.inr (lcall_sub [0, 1, 2] (look_ok b (wA b 8) ts hB hb e8 hlk) (congrArg (fun z : Int => [SV.bx 2 0, .v (.int .i64 z)]) e8) rfl rfl rfl rfl (aI (aI rfl rfl) (aI rfl (aI (aI rfl rfl) trivial))) ?_)
 refine Or.inr (lcall_need _ (fun _ => ?_) (fun h => absurd rfl (of_decide_eq_false h)))
 refine Or.inl ⟨.int .u16 (wA b 6), fun ρ S w hm => word_x b 6 6 0 hB (by omega) (by omega) (by omega) (by simp) _ w (hm.rep 40 (.bx 2 0) (.ptr (rdD b)) rfl rfl), ?_⟩
 cases hft : featX b (wA b 6) (ts.length : Int) with
 | none =>
  rw [hft] at hX
  refine Or.inr (lcall_sub [0, 1, 2] (feat_no b (wA b 6) (ts.length : Int) hB hb e6 hft) (congrArg (fun z : Int => [SV.bx 2 0, .v (.int .i64 z), .v (.int .i64 (ts.length : Int))]) e6) rfl rfl rfl rfl (aI (aI rfl rfl) (aI rfl (aI (aI rfl rfl) trivial))) ?_)
  refine Or.inr (lcall_need _ (fun h => absurd (of_decide_eq_true h : (50 : Int) = 0) (by decide)) (fun _ => ?_))
  exact aI rfl (dcall_sub [4, 5, 6] (rec_a 50) rfl rfl rfl rfl rfl (aI (aI rfl rfl) (aI (aI rfl rfl) (aI (aI rfl rfl) trivial))) (fun ρ1 S1 w1 hi => failX hX.symm hm0 hi rfl (aI trivial (aI rfl (aI trivial trivial))) rfl))
 | some fs =>
 rw [hft] at hX
 simp only at hX
 refine Or.inr (lcall_sub [0, 1, 2] (feat_ok b (wA b 6) (ts.length : Int) fs hB hb e6 hft) (congrArg (fun z : Int => [SV.bx 2 0, .v (.int .i64 z), .v (.int .i64 (ts.length : Int))]) e6) rfl rfl rfl rfl (aI (aI rfl rfl) (aI rfl (aI (aI rfl rfl) trivial))) ?_)
 refine Or.inr (lcall_need _ (fun _ => ?_) (fun h => absurd rfl (of_decide_eq_false h)))
 refine ⟨St1 b g ts fs X, fun q => ⟨110, [⟨0, [], .bx 2 0⟩, ⟨1, [], .v (.int .i64 g)⟩, ⟨4, [], .bx 4 0⟩, ⟨5, [], .bx 5 0⟩, ⟨6, [], .bx 6 0⟩, ⟨59, [], .sl 7⟩, ⟨60, [], .v (.int .i64 (ts.length : Nat))⟩, ⟨61, [], .v (.int .i64 (q.i : Nat))⟩], rdC b false ++ [.dead, .bx 22 [.sl 9], .bx 23 [.sl 8], .bx 71 [.v (.int .i64 0)], owT ts, owF fs, owLk q.acc], [], dropL nats 10⟩, fun q => ts.length - q.i, ⟨[0, 1, 2, 3, 4, 5, 6, 7, 8, 1000], ⟨0, [], by omega, rfl, hX⟩, ?_⟩, fun q => ?_⟩
 · exact aI (aI rfl (aI rfl (aI rfl (aI rfl (aI rfl (aI rfl (aI rfl (aI rfl trivial)))))))) (aI (aI rfl rfl) (aI rfl (aI (aI rfl rfl) (aI trivial (aI (aI rfl rfl) (aI (aI rfl rfl) (aI (aI rfl rfl) (aI rfl (aI rfl (aI rfl trivial))))))))))
 obtain ⟨i, acc, hi, hl, he⟩ := q
 refine aI (fun hlt => ?_) (fun hge => ?_)
 rotate_left
 · have hge : i = ts.length := by
    have : ¬ ((i : Nat) : Int) < ((ts.length : Nat) : Int) := of_decide_eq_false hge
    omega
   subst hge
   rw [List.drop_length] at he
   have he : some (acc, fs) = X := he
   subst he
   refine Or.inr (Or.inr (Or.inr ⟨[1], [0, 2], [3, 4], [(4, some [0])], by kernel_rfl, ?_⟩))
   refine ⟨_, ⟨rfl, rfl⟩, fun xs => ⟨rfl, rfl⟩, ?_⟩
   refine ⟨rfl, fun xs => rfl, ?_⟩
   refine ⟨rfl, fun xs => rfl, ?_⟩
   refine aI rfl (dcall_sub [4, 5, 6, 9, 8] (rec_r acc fs) rfl rfl rfl rfl rfl (aI (aI rfl rfl) (aI (aI rfl rfl) (aI (aI rfl rfl) (aI rfl (aI rfl trivial))))) ?_)
   exact fun ρ1 S1 w1 hi => lend [0, 1, 2, 9, 8] hm0 hi rfl rfl (by exact ⟨trivial, ⟨Nat.le_refl _, rfl⟩, trivial, trivial⟩) rfl rfl rfl rfl (aI trivial (aI rfl (aI trivial (aI rfl (aI rfl trivial))))) rfl
 have hlt : i < ts.length := by
  have : ((i : Nat) : Int) < ((ts.length : Nat) : Int) := of_decide_eq_true hlt
  omega
 have hdr : ts.drop i = nth ts i :: ts.drop (i + 1) := by
  unfold nth
  rw [List.drop_eq_getElem_cons hlt, List.getD_eq_getElem?_getD, List.getElem?_eq_getElem hlt]; rfl
 rw [hdr] at he
 refine aI (show (0 : Int) <= (i : Int) /\ (i : Int) < (ts.length : Int) from ⟨by omega, by omega⟩) ?_
 obtain ⟨t, ht⟩ : ∃ t, t = nth ts i := ⟨_, rfl⟩
 have htm : t ∈ ts := by
  rw [ht]; unfold nth
  rw [List.getD_eq_getElem?_getD, List.getElem?_eq_getElem hlt]
  exact List.getElem_mem hlt
 obtain ⟨a1, a2, a3, a4⟩ := hat t htm
 rw [<- ht] at he
 refine Or.inl ⟨kindV t.ty, fun ρ S w hm => by rw [ht]; exact kind_c _ w, ?_⟩
 have hltt : i < ts.length := hlt
 by_cases k2 : t.ty = 2
 · have hk : kindV t.ty = .iface 115 (.agg #[]) := by unfold kindV; rw [if_pos k2]
   rw [hk]
   rw [lLoop, if_pos (.inl k2)] at he
   refine ⟨.tuple #[.agg #[], .bool true], pure_assertOk rfl Tryz.underlying115 (by simp), ?_⟩
   refine ⟨.tuple #[.agg #[.bool false], .bool false], pure_assertNo rfl (by decide) Tryz.underlying117 (by simp) (fun w => Tryz.zeroValue117 w), ?_⟩
   refine aI (fun _ => ?_) (fun h => by cases h)
   refine ⟨St2 b g ts fs t i acc X, fun q => ⟨110, [⟨0, [], .bx 2 0⟩, ⟨1, [], .v (.int .i64 g)⟩, ⟨4, [], .bx 4 0⟩, ⟨5, [], .bx 5 0⟩, ⟨6, [], .bx 6 0⟩, ⟨10, [], .bx 11 0⟩, ⟨11, [], .bx 12 0⟩, ⟨12, [], .v (.iface 115 (.agg #[]))⟩, ⟨59, [], .sl 7⟩, ⟨60, [], .v (.int .i64 (ts.length : Nat))⟩, ⟨61, [], .v (.int .i64 (i : Nat))⟩, ⟨87, [], .sl 10⟩, ⟨88, [], .v (.int .i64 (t.at'.length : Nat))⟩, ⟨89, [], .v (.int .i64 (q.j : Nat))⟩], rdC b false ++ [.dead, .bx 22 [.sl 9], .bx 23 [.sl 8], .bx 71 [.v (.int .i64 0)], owT ts, owF fs, owLk acc, .rd Int inferInstance 1 zE t.at', .bx 111 [.bx 2 0, .v (.int .i64 g), .v (.int .i64 q.s)], .bx 53 [.v (.int .u16 t.ty), .v (.int .u16 t.flag), nilS, .sl 13], owP q.acc], [], dropL nats 14⟩, fun q => t.at'.length - q.j, ⟨[0, 1, 2, 3, 4, 5, 6, 7, 8, 9, 10, 12, 13, 1000], ⟨0, 0, [], by omega, ⟨by omega, by omega⟩, rfl, he⟩, ?_⟩, fun q => ?_⟩
   · subst ht; exact aI (aI rfl (aI rfl (aI rfl (aI rfl (aI rfl (aI rfl (aI rfl (aI rfl (aI rfl (aI rfl (aI rfl (aI rfl (aI rfl (aI rfl trivial)))))))))))))) (aI (aI rfl rfl) (aI rfl (aI (aI rfl rfl) (aI trivial (aI (aI rfl rfl) (aI (aI rfl rfl) (aI (aI rfl rfl) (aI rfl (aI rfl (aI rfl (aI rfl (aI (aI rfl rfl) (aI (aI rfl rfl) (aI rfl trivial))))))))))))))
   obtain ⟨j, s, pa, hj, hs, hpl, he2⟩ := q
   refine aI (fun hjl => ?_) (fun hjg => ?_)
   rotate_left
   · have hjg : j = t.at'.length := by
      have : ¬ ((j : Nat) : Int) < ((t.at'.length : Nat) : Int) := of_decide_eq_false hjg
      omega
     rw [hjg, List.drop_length] at he2
     have he2 : tailX b g ts fs (lLoop b g (ts.drop (i + 1)) (acc ++ [⟨t.ty, t.flag, pa⟩])) = X := he2
     refine ⟨[⟨t.ty, t.flag, pa⟩], ⟨rfl, rfl, by simp⟩, by show (acc.length + 1) * 56 <= _; omega, ?_⟩
     exact ⟨[0, 1, 2, 3, 4, 5, 6, 7, 8, 15], ⟨i + 1, acc ++ [⟨t.ty, t.flag, pa⟩], hltt, by rw [List.length_append]; show acc.length + 1 = _; omega, he2⟩, aI (aI rfl (aI rfl (aI rfl (aI rfl (aI rfl (aI rfl (aI rfl (aI (svI (i64_succ i (by omega))) trivial)))))))) (aI (aI rfl rfl) (aI rfl (aI (aI rfl rfl) (aI trivial (aI (aI rfl rfl) (aI (aI rfl rfl) (aI (aI rfl rfl) (aI rfl (aI rfl (aI (owLke rfl) trivial)))))))))), by show ts.length - (i + 1) < ts.length - i; omega⟩
   have hjl : j < t.at'.length := by
    have : ((j : Nat) : Int) < ((t.at'.length : Nat) : Int) := of_decide_eq_true hjl
    omega
   refine aI (show (0 : Int) <= (j : Int) /\ (j : Int) < (t.at'.length : Int) from ⟨by omega, by omega⟩) ?_
   have hajm := a2 (nth t.at' j) (by rw [nthZ hjl]; exact List.getElem_mem hjl)
   rw [nthD hjl, sLoop] at he2
   obtain ⟨A, hA⟩ : ∃ A, A = nth t.at' j := ⟨_, rfl⟩
   rw [<- hA] at he2 hajm
   refine Or.inr (Or.inr (Or.inr ⟨[0, 1, 2, 3, 4], [5, 6], [7, 8, 9], [(11, some [2])], by kernel_rfl, ?_⟩))
   refine ⟨_, ⟨rfl, rfl⟩, fun xs => ⟨rfl, rfl⟩, ?_⟩
   refine ⟨_, ⟨rfl, rfl⟩, fun xs => ⟨rfl, rfl⟩, ?_⟩
   refine ⟨_, ⟨rfl, rfl⟩, fun xs => ⟨rfl, rfl⟩, ?_⟩
   refine ⟨_, ⟨rfl, rfl⟩, fun xs => ⟨rfl, rfl⟩, ?_⟩
   refine ⟨_, ⟨rfl, rfl⟩, fun xs => ⟨rfl, rfl⟩, ?_⟩
   cases hp : pairsX b g A s with
   | none =>
    rw [show posX b g t.ty A s = none from by unfold posX; rw [if_pos k2, hp]] at he2
    refine ⟨112, .agg #[], rfl, meth84, lcall_subP [0, 1, 2, 11] (pairs_s b g A s hB hb hajm hs none hp) (by rw [hA]; rfl) rfl rfl rfl rfl rfl rfl (aI (aI rfl rfl) (aI rfl (aI (aI rfl rfl) (aI (aI rfl rfl) trivial)))) (fun h => absurd rfl h) (fun _ => ?_)⟩
    exact aI rfl (dcall_sub [4, 5, 6, 9, 8] (rec_c 0) rfl rfl rfl rfl rfl (aI (aI rfl rfl) (aI (aI rfl rfl) (aI (aI rfl rfl) (aI trivial (aI trivial trivial))))) (fun ρ1 S1 w1 hi => failX he2.symm hm0 hi rfl (aI trivial (aI rfl (aI trivial trivial))) rfl))
   | some r =>
    obtain ⟨ks, s'⟩ := r
    rw [show posX b g t.ty A s = some (.k ks, s') from by unfold posX; rw [if_pos k2, hp]] at he2
    have hs' : 0 <= s' /\ s' <= 65536 := pairs_rng hs hp
    refine ⟨112, .agg #[], rfl, meth84, lcall_subP [0, 1, 2, 11] (pairs_s b g A s hB hb hajm hs _ hp) (by rw [hA]; rfl) rfl rfl rfl rfl rfl rfl (aI (aI rfl rfl) (aI rfl (aI (aI rfl rfl) (aI (aI rfl rfl) trivial)))) (fun _ => ?_) (fun h => by cases h)⟩
    refine ⟨rfl, fun xs => rfl, ?_⟩
    refine ⟨rfl, fun xs => rfl, ?_⟩
    refine ⟨[.k ks], ⟨rfl, rfl, by simp [poE]⟩, by show (pa.length + 1) * 72 <= _; omega, ?_⟩
    exact ⟨[0, 1, 2, 3, 4, 5, 6, 7, 8, 9, 10, 11, 12, 16], ⟨j + 1, s', pa ++ [.k ks], hjl, hs', by rw [List.length_append]; show pa.length + 1 = _; omega, he2⟩, aI (aI rfl (aI rfl (aI rfl (aI rfl (aI rfl (aI rfl (aI rfl (aI rfl (aI rfl (aI rfl (aI rfl (aI rfl (aI rfl (aI (svI (i64_succ j (by omega))) trivial)))))))))))))) (aI (aI rfl rfl) (aI rfl (aI (aI rfl rfl) (aI trivial (aI (aI rfl rfl) (aI (aI rfl rfl) (aI (aI rfl rfl) (aI rfl (aI rfl (aI rfl (aI rfl (aI (aI rfl rfl) (aI (aI rfl rfl) (aI (owPe rfl) trivial)))))))))))))), by show t.at'.length - (j + 1) < t.at'.length - j; omega⟩
 by_cases k46 : t.ty = 4 \/ t.ty = 6
 · obtain ⟨on, hk⟩ : ∃ on, kindV t.ty = .iface 117 (.agg #[.bool on]) := by
    unfold kindV
    rw [if_neg k2]
    by_cases k4 : t.ty = 4
    · rw [if_pos k4]; exact ⟨_, rfl⟩
    · rw [if_neg k4, if_pos (k46.resolve_left k4)]; exact ⟨_, rfl⟩
   rw [hk]
   rw [lLoop, if_pos (.inr k46)] at he
   refine ⟨.tuple #[.agg #[], .bool false], pure_assertNo rfl (by decide) Tryz.underlying115 (by simp) (fun w => Tryz.zeroValue115 w), ?_⟩
   refine ⟨.tuple #[.agg #[.bool on], .bool true], pure_assertOk rfl Tryz.underlying117 (by simp), ?_⟩
   refine aI (fun _ => ?_) (fun h => by cases h)
   refine ⟨St2 b g ts fs t i acc X, fun q => ⟨110, [⟨0, [], .bx 2 0⟩, ⟨1, [], .v (.int .i64 g)⟩, ⟨4, [], .bx 4 0⟩, ⟨5, [], .bx 5 0⟩, ⟨6, [], .bx 6 0⟩, ⟨10, [], .bx 11 0⟩, ⟨11, [], .bx 12 0⟩, ⟨12, [], .v (.iface 117 (.agg #[.bool on]))⟩, ⟨59, [], .sl 7⟩, ⟨60, [], .v (.int .i64 (ts.length : Nat))⟩, ⟨61, [], .v (.int .i64 (i : Nat))⟩, ⟨87, [], .sl 10⟩, ⟨88, [], .v (.int .i64 (t.at'.length : Nat))⟩, ⟨89, [], .v (.int .i64 (q.j : Nat))⟩], rdC b false ++ [.dead, .bx 22 [.sl 9], .bx 23 [.sl 8], .bx 71 [.v (.int .i64 0)], owT ts, owF fs, owLk acc, .rd Int inferInstance 1 zE t.at', .bx 111 [.bx 2 0, .v (.int .i64 g), .v (.int .i64 q.s)], .bx 53 [.v (.int .u16 t.ty), .v (.int .u16 t.flag), nilS, .sl 13], owP q.acc], [], dropL nats 14⟩, fun q => t.at'.length - q.j, ⟨[0, 1, 2, 3, 4, 5, 6, 7, 8, 9, 10, 12, 13, 1000], ⟨0, 0, [], by omega, ⟨by omega, by omega⟩, rfl, he⟩, ?_⟩, fun q => ?_⟩
   · subst ht; exact aI (aI rfl (aI rfl (aI rfl (aI rfl (aI rfl (aI rfl (aI rfl (aI rfl (aI rfl (aI rfl (aI rfl (aI rfl (aI rfl (aI rfl trivial)))))))))))))) (aI (aI rfl rfl) (aI rfl (aI (aI rfl rfl) (aI trivial (aI (aI rfl rfl) (aI (aI rfl rfl) (aI (aI rfl rfl) (aI rfl (aI rfl (aI rfl (aI rfl (aI (aI rfl rfl) (aI (aI rfl rfl) (aI rfl trivial))))))))))))))
   obtain ⟨j, s, pa, hj, hs, hpl, he2⟩ := q
   refine aI (fun hjl => ?_) (fun hjg => ?_)
   rotate_left
   · have hjg : j = t.at'.length := by
      have : ¬ ((j : Nat) : Int) < ((t.at'.length : Nat) : Int) := of_decide_eq_false hjg
      omega
     rw [hjg, List.drop_length] at he2
     have he2 : tailX b g ts fs (lLoop b g (ts.drop (i + 1)) (acc ++ [⟨t.ty, t.flag, pa⟩])) = X := he2
     refine ⟨[⟨t.ty, t.flag, pa⟩], ⟨rfl, rfl, by simp⟩, by show (acc.length + 1) * 56 <= _; omega, ?_⟩
     exact ⟨[0, 1, 2, 3, 4, 5, 6, 7, 8, 15], ⟨i + 1, acc ++ [⟨t.ty, t.flag, pa⟩], hltt, by rw [List.length_append]; show acc.length + 1 = _; omega, he2⟩, aI (aI rfl (aI rfl (aI rfl (aI rfl (aI rfl (aI rfl (aI rfl (aI (svI (i64_succ i (by omega))) trivial)))))))) (aI (aI rfl rfl) (aI rfl (aI (aI rfl rfl) (aI trivial (aI (aI rfl rfl) (aI (aI rfl rfl) (aI (aI rfl rfl) (aI rfl (aI rfl (aI (owLke rfl) trivial)))))))))), by show ts.length - (i + 1) < ts.length - i; omega⟩
   have hjl : j < t.at'.length := by
    have : ((j : Nat) : Int) < ((t.at'.length : Nat) : Int) := of_decide_eq_true hjl
    omega
   refine aI (show (0 : Int) <= (j : Int) /\ (j : Int) < (t.at'.length : Int) from ⟨by omega, by omega⟩) ?_
   have hajm := a2 (nth t.at' j) (by rw [nthZ hjl]; exact List.getElem_mem hjl)
   rw [nthD hjl, sLoop] at he2
   obtain ⟨A, hA⟩ : ∃ A, A = nth t.at' j := ⟨_, rfl⟩
   rw [<- hA] at he2 hajm
   refine Or.inr (Or.inr (Or.inr ⟨[0, 1, 2, 3, 4], [5, 6], [7, 8, 9], [(11, some [2])], by kernel_rfl, ?_⟩))
   refine ⟨_, ⟨rfl, rfl⟩, fun xs => ⟨rfl, rfl⟩, ?_⟩
   refine ⟨_, ⟨rfl, rfl⟩, fun xs => ⟨rfl, rfl⟩, ?_⟩
   refine ⟨_, ⟨rfl, rfl⟩, fun xs => ⟨rfl, rfl⟩, ?_⟩
   refine ⟨_, ⟨rfl, rfl⟩, fun xs => ⟨rfl, rfl⟩, ?_⟩
   refine ⟨_, ⟨rfl, rfl⟩, fun xs => ⟨rfl, rfl⟩, ?_⟩
   cases hp : marksX b g A s with
   | none =>
    rw [show posX b g t.ty A s = none from by unfold posX; rw [if_neg k2, hp]] at he2
    refine ⟨118, .agg #[.bool on], rfl, meth86 on, lcall_subP [0, 1, 2, 11] (marks_s on b g A s hB hb hajm hs none hp) (by rw [hA]; rfl) rfl rfl rfl rfl rfl rfl (aI (aI rfl rfl) (aI rfl (aI (aI rfl rfl) (aI (aI rfl rfl) trivial)))) (fun h => absurd rfl h) (fun _ => ?_)⟩
    exact aI rfl (dcall_sub [4, 5, 6, 9, 8] (rec_c 0) rfl rfl rfl rfl rfl (aI (aI rfl rfl) (aI (aI rfl rfl) (aI (aI rfl rfl) (aI trivial (aI trivial trivial))))) (fun ρ1 S1 w1 hi => failX he2.symm hm0 hi rfl (aI trivial (aI rfl (aI trivial trivial))) rfl))
   | some r =>
    obtain ⟨ms, bs, s'⟩ := r
    rw [show posX b g t.ty A s = some (.m ms bs, s') from by unfold posX; rw [if_neg k2, hp]] at he2
    have hs' : 0 <= s' /\ s' <= 65536 := marks_rng hs hp
    refine ⟨118, .agg #[.bool on], rfl, meth86 on, lcall_subP [0, 1, 2, 11] (marks_s on b g A s hB hb hajm hs _ hp) (by rw [hA]; rfl) rfl rfl rfl rfl rfl rfl (aI (aI rfl rfl) (aI rfl (aI (aI rfl rfl) (aI (aI rfl rfl) trivial)))) (fun _ => ?_) (fun h => by cases h)⟩
    refine ⟨rfl, fun xs => rfl, ?_⟩
    refine ⟨rfl, fun xs => rfl, ?_⟩
    refine ⟨[.m ms bs], ⟨rfl, rfl, by simp [poE]⟩, by show (pa.length + 1) * 72 <= _; omega, ?_⟩
    exact ⟨[0, 1, 2, 3, 4, 5, 6, 7, 8, 9, 10, 11, 12, 17], ⟨j + 1, s', pa ++ [.m ms bs], hjl, hs', by rw [List.length_append]; show pa.length + 1 = _; omega, he2⟩, aI (aI rfl (aI rfl (aI rfl (aI rfl (aI rfl (aI rfl (aI rfl (aI rfl (aI rfl (aI rfl (aI rfl (aI rfl (aI rfl (aI (svI (i64_succ j (by omega))) trivial)))))))))))))) (aI (aI rfl rfl) (aI rfl (aI (aI rfl rfl) (aI trivial (aI (aI rfl rfl) (aI (aI rfl rfl) (aI (aI rfl rfl) (aI rfl (aI rfl (aI rfl (aI rfl (aI (aI rfl rfl) (aI (aI rfl rfl) (aI (owPe rfl) trivial)))))))))))))), by show t.at'.length - (j + 1) < t.at'.length - j; omega⟩
 have hk : kindV t.ty = .nilIface := by
  unfold kindV
  rw [if_neg k2, if_neg (fun h => k46 (.inl h)), if_neg (fun h => k46 (.inr h))]
 rw [hk]
 rw [lLoop, if_neg (fun h => h.elim k2 k46)] at he
 refine ⟨.tuple #[.agg #[], .bool false], pure_assertNil rfl Tryz.underlying115 (by simp) (fun w => Tryz.zeroValue115 w), ?_⟩
 refine ⟨.tuple #[.agg #[.bool false], .bool false], pure_assertNil rfl Tryz.underlying117 (by simp) (fun w => Tryz.zeroValue117 w), ?_⟩
 refine aI (fun h => by cases h) (fun _ => ?_)
 refine Or.inr (lcall_need false (fun h => by cases h) (fun _ => ?_))
 exact aI rfl (dcall_sub [4, 5, 6, 9, 8] (rec_c 0) rfl rfl rfl rfl rfl (aI (aI rfl rfl) (aI (aI rfl rfl) (aI (aI rfl rfl) (aI trivial (aI trivial trivial))))) (fun ρ1 S1 w1 hi => failX he.symm hm0 hi rfl (aI trivial (aI rfl (aI trivial trivial))) rfl))
end Go.Proofs.YtjflgkadagkllaaGreat
