/- attach.on: is a lookup on? -/
import Derived.Test.YtaiapnemlnmeiaaT3
namespace Go.Proofs.Ytaiapnemlnmeiaa
open Go Go.Eng Go.RowKit

theorem index_c (xs : List Int) (n : Int) (hx : xs.length ≤ 9223372036854775807) (sv : Value) (w : World) (hs : Rd w sv 1 iE xs) :
    Calls Try.prog 32 #[sv, .int .i64 n] w fun e w' => e = .returned (.int .i64 (idxF (fun x => decide (n = x)) xs 0)) ∧ Below w.heap.size w w' := by
  generalize hp : (fun x : Int => decide (n = x)) = p
  refine calls_exec (cf := cf) cfok (fn := Try.f32) Try.func32 rfl [.sl 0, .v (.int .i64 n)] [.rd Int inferInstance 1 iE xs] (ρ := fun i => sv) (· < w.heap.size) rfl rfl rfl (by simp [svOkL, svOk]) (memRd (fun _ h => h) ⟨hs, trivial⟩) ?_
  refine ⟨{ i : Nat // i ≤ xs.length ∧ idxF p xs 0 = idxF p (xs.drop i) i }, fun i => ⟨19, [⟨0, [], .sl 0⟩, ⟨1, [], .v (.int .i64 n)⟩, ⟨7, [], .v (.int .i64 xs.length)⟩, ⟨8, [], .v (.int .i64 i.1)⟩], [.rd Int inferInstance 1 iE xs], [], dropL nats 1⟩, fun i => xs.length - i.1, ⟨[0], ⟨0, by omega, rfl⟩, ?_⟩, fun i => ?_⟩
  · exact And.intro (And.intro rfl (And.intro rfl (And.intro rfl (And.intro rfl trivial)))) (And.intro rfl trivial)
  obtain ⟨i, hi, hall⟩ := i
  refine And.intro (fun hlt => ?_) (fun hge => ?_)
  · have hlt : i < xs.length := by have : (i : Int) < (xs.length : Int) := of_decide_eq_true hlt
                                   omega
    rw [idxF_drop _ xs i hlt] at hall
    refine And.intro (show (0 : Int) ≤ (i : Int) ∧ (i : Int) < (xs.length : Int) from ⟨by omega, by omega⟩) ?_
    refine And.intro (fun hb => ?_) (fun hb => ?_)
    · have hb : p (nth xs i) = true := by rw [← hp]; exact hb
      rw [if_pos hb] at hall
      exact fun ρ S w' hi' => ⟨retI hall.symm, hi'.below⟩
    · have hb : p (nth xs i) = false := by rw [← hp]; exact hb
      rw [if_neg (fun h => by rw [hb] at h; cases h)] at hall
      exact ⟨[0], ⟨i + 1, hlt, hall⟩, And.intro (And.intro rfl (And.intro rfl (And.intro rfl (And.intro (svI (i64_succ i (by omega))) trivial)))) (And.intro rfl trivial), by show _ - (i + 1) < _ - i; omega⟩
  · have hge : i = xs.length := by have : ¬ (i : Int) < (xs.length : Int) := of_decide_eq_false hge
                                   omega
    subst hge
    rw [List.drop_length] at hall
    exact fun ρ S w' hi' => ⟨retI hall.symm, hi'.below⟩
def hasL (xs : List Int) (n : Int) : Bool := decide (idxF (fun x => decide (n = x)) xs 0 ≥ 0)
theorem contains_c (xs : List Int) (n : Int) (hx : xs.length ≤ 9223372036854775807) (sv : Value) (w : World) (hs : Rd w sv 1 iE xs) :
    Calls Try.prog 24 #[sv, .int .i64 n] w fun e w' => e = .returned (.bool (hasL xs n)) ∧ Below w.heap.size w w' := by
  refine calls_exec (cf := cf) cfok (fn := Try.f24) Try.func24 rfl [.sl 0, .v (.int .i64 n)] [.rd Int inferInstance 1 iE xs] (ρ := fun i => sv) (· < w.heap.size) rfl rfl rfl (by simp [svOkL, svOk]) (memRd (fun _ h => h) ⟨hs, trivial⟩) ?_
  refine Or.inl ⟨_, fun ρ S w hm => index_c xs n hx _ w (hm.rd 0 rfl rfl), ?_⟩
  exact fun ρ S w' hi => ⟨rfl, hi.below⟩

def tagS (x : Feature) : List Int := [x.t0, x.t1, x.t2, x.t3]
def isTag (x : Feature) : Bool := ((strOfNums (tagS x)).toList == (⟨#[107, 101, 114, 110]⟩ : ByteArray).toList) || (((strOfNums (tagS x)).toList == (⟨#[109, 97, 114, 107]⟩ : ByteArray).toList) || ((strOfNums (tagS x)).toList == (⟨#[109, 107, 109, 107]⟩ : ByteArray).toList))
def onP (n : Int) (x : Feature) : Bool := isTag x && hasL x.lks n
theorem on1_c (x : Feature) (n : Int) (hx : x.lks.length ≤ 9223372036854775807) (sv v1 : Value) (w : World) (hs : Rd w sv 1 iE x.lks) (h1 : DRep (· < w.heap.size) w (.ptr [.v (.int .i64 n)]) v1) :
    Calls Try.prog 23 #[.agg #[.int .u8 x.t0, .int .u8 x.t1, .int .u8 x.t2, .int .u8 x.t3, sv], v1] w fun e w' => e = .returned (.bool (onP n x)) ∧ Below w.heap.size w w' := by
  obtain ⟨k1, o1, rfl⟩ : ∃ k o, v1 = .pointer (some ⟨k, o, none⟩) := by cases h1; exact ⟨_, _, rfl⟩
  refine calls_exec (cf := cf) cfok (fn := Try.f23) Try.func23 rfl [.agg [.v (.int .u8 x.t0), .v (.int .u8 x.t1), .v (.int .u8 x.t2), .v (.int .u8 x.t3), .sl 0], .bx 1 0] [.rd Int inferInstance 1 iE x.lks, .rp [] [.v (.int .i64 n)]] (ρ := fun i => match i with | 0 => sv | _ => .pointer (some ⟨k1, o1, none⟩)) (· < w.heap.size) rfl rfl rfl (by simp [svOkL, svOk]) (memRd (fun _ h => h) ⟨hs, h1, trivial⟩) ?_
  have R : ∀ b : Bool, onP n x = b → Ending.returned (.bool b) = Ending.returned (.bool (onP n x)) := fun b h => by rw [h]
  refine ⟨Int, inferInstance, bE, tagS x, rfl, rfl, fun n _ => rfl, ?_⟩
  refine ⟨.string (strOfNums (tagS x)), pure_bytes ttok' (tagS x) rfl rfl rfl rfl rfl ⟨rfl, rfl, fun i _ => ⟨rfl, rfl⟩⟩, ?_⟩
  have hT : isTag x = true → onP n x = hasL x.lks n := fun h => by unfold onP; rw [h]; rfl
  have hF : isTag x = false → onP n x = false := fun h => by unfold onP; rw [h]; rfl
  unfold isTag at hT hF
  refine And.intro (fun h => ?_) (fun h => ?_)
  · have h : ((strOfNums (tagS x)).toList == (⟨#[107, 101, 114, 110]⟩ : ByteArray).toList) = true := h
    refine And.intro (fun _ => ?_) (fun h' => absurd (h.symm.trans h') (by decide))
    refine Or.inl ⟨_, fun ρ S w hm => contains_c x.lks n hx _ w (hm.rd 4 rfl rfl), ?_⟩
    exact fun ρ S w' hi => ⟨R _ (hT (by rw [h]; rfl)), hi.below⟩
  have ha : ((strOfNums (tagS x)).toList == (⟨#[107, 101, 114, 110]⟩ : ByteArray).toList) = false := h
  refine And.intro (fun h => ?_) (fun h => ?_)
  · have h : ((strOfNums (tagS x)).toList == (⟨#[109, 97, 114, 107]⟩ : ByteArray).toList) = true := h
    refine And.intro (fun _ => ?_) (fun h' => absurd (h.symm.trans h') (by decide))
    refine Or.inl ⟨_, fun ρ S w hm => contains_c x.lks n hx _ w (hm.rd 4 rfl rfl), ?_⟩
    exact fun ρ S w' hi => ⟨R _ (hT (by rw [ha, h]; rfl)), hi.below⟩
  have hb : ((strOfNums (tagS x)).toList == (⟨#[109, 97, 114, 107]⟩ : ByteArray).toList) = false := h
  refine And.intro (fun h => ?_) (fun h => ?_)
  · have h : ((strOfNums (tagS x)).toList == (⟨#[109, 107, 109, 107]⟩ : ByteArray).toList) = true := h
    refine Or.inl ⟨_, fun ρ S w hm => contains_c x.lks n hx _ w (hm.rd 4 rfl rfl), ?_⟩
    exact fun ρ S w' hi => ⟨R _ (hT (by rw [ha, hb, h]; rfl)), hi.below⟩
  have hc : ((strOfNums (tagS x)).toList == (⟨#[109, 107, 109, 107]⟩ : ByteArray).toList) = false := h
  exact fun ρ S w' hi => ⟨R _ (hF (by rw [ha, hb, hc]; rfl)), hi.below⟩

theorem onIdx_c (xs : List Feature) (n : Int) (hx : xs.length ≤ 9223372036854775807) (hl : ∀ x ∈ xs, x.lks.length ≤ 9223372036854775807) (sv v1 : Value) (w : World) (hs : Rd w sv 5 feE xs) (h1 : DRep (· < w.heap.size) w (.ptr [.v (.int .i64 n)]) v1) :
    Calls Try.prog 31 #[sv, .func (.func 23) #[] #[v1]] w fun e w' => e = .returned (.int .i64 (idxF (onP n) xs 0)) ∧ Below w.heap.size w w' := by
  obtain ⟨k1, o1, rfl⟩ : ∃ k o, v1 = .pointer (some ⟨k, o, none⟩) := by cases h1; exact ⟨_, _, rfl⟩
  refine calls_exec (cf := cf) cfok (fn := Try.f31) Try.func31 rfl [.sl 0, .fn 23 [.bx 1 0]] [.rd Feature inferInstance 5 feE xs, .rp [] [.v (.int .i64 n)]] (ρ := fun i => match i with | 0 => sv | _ => .pointer (some ⟨k1, o1, none⟩)) (· < w.heap.size) rfl rfl rfl (by simp [svOkL, svOk]) (memRd (fun _ h => h) ⟨hs, h1, trivial⟩) ?_
  refine ⟨{ i : Nat // i ≤ xs.length ∧ idxF (onP n) xs 0 = idxF (onP n) (xs.drop i) i }, fun i => ⟨19, [⟨0, [], .sl 0⟩, ⟨1, [], .fn 23 [.bx 1 0]⟩, ⟨7, [], .v (.int .i64 xs.length)⟩, ⟨8, [], .v (.int .i64 i.1)⟩], [.rd Feature inferInstance 5 feE xs, .rp [] [.v (.int .i64 n)]], [], dropL nats 2⟩, fun i => xs.length - i.1, ⟨[0, 1], ⟨0, by omega, rfl⟩, ?_⟩, fun i => ?_⟩
  · exact And.intro (And.intro rfl (And.intro rfl (And.intro rfl (And.intro rfl trivial)))) (And.intro rfl (And.intro ⟨rfl, rfl⟩ trivial))
  obtain ⟨i, hi, hall⟩ := i
  refine And.intro (fun hlt => ?_) (fun hge => ?_)
  · have hlt : i < xs.length := by have : (i : Int) < (xs.length : Int) := of_decide_eq_true hlt
                                   omega
    rw [idxF_drop _ xs i hlt] at hall
    have hli : (nth xs i).lks.length ≤ 9223372036854775807 := by
      refine hl _ ?_
      unfold nth
      rw [List.getD_eq_getElem?_getD, List.getElem?_eq_getElem hlt]
      exact List.getElem_mem hlt
    refine And.intro (show (0 : Int) ≤ (i : Int) ∧ (i : Int) < (xs.length : Int) from ⟨by omega, by omega⟩) ?_
    refine Or.inl ⟨.bool (onP n (nth xs i)), fun ρ S w hm => on1_c (nth xs i) n hli _ _ w (hm.rd 2 rfl rfl) (hm.rp 1 rfl rfl), ?_⟩
    refine And.intro (fun hb => ?_) (fun hb => ?_)
    · have hb : onP n (nth xs i) = true := hb
      rw [if_pos hb] at hall
      exact fun ρ S w' hi' => ⟨retI hall.symm, hi'.below⟩
    · have hb : onP n (nth xs i) = false := hb
      rw [if_neg (fun h => by rw [hb] at h; cases h)] at hall
      exact ⟨[0, 1], ⟨i + 1, hlt, hall⟩, And.intro (And.intro rfl (And.intro rfl (And.intro rfl (And.intro (svI (i64_succ i (by omega))) trivial)))) (And.intro rfl (And.intro ⟨rfl, rfl⟩ trivial)), by show _ - (i + 1) < _ - i; omega⟩
  · have hge : i = xs.length := by have : ¬ (i : Int) < (xs.length : Int) := of_decide_eq_false hge
                                   omega
    subst hge
    rw [List.drop_length] at hall
    exact fun ρ S w' hi' => ⟨retI hall.symm, hi'.below⟩
def onF (f : Font) (n : Int) : Bool := decide (idxF (onP n) f.pfeats 0 ≥ 0)
theorem onCon_c (xs : List Feature) (n : Int) (hx : xs.length ≤ 9223372036854775807) (hl : ∀ x ∈ xs, x.lks.length ≤ 9223372036854775807) (sv v1 : Value) (w : World) (hs : Rd w sv 5 feE xs) (h1 : DRep (· < w.heap.size) w (.ptr [.v (.int .i64 n)]) v1) :
    Calls Try.prog 22 #[sv, .func (.func 23) #[] #[v1]] w fun e w' => e = .returned (.bool (decide (idxF (onP n) xs 0 ≥ 0))) ∧ Below w.heap.size w w' := by
  obtain ⟨k1, o1, rfl⟩ : ∃ k o, v1 = .pointer (some ⟨k, o, none⟩) := by cases h1; exact ⟨_, _, rfl⟩
  refine calls_exec (cf := cf) cfok (fn := Try.f22) Try.func22 rfl [.sl 0, .fn 23 [.bx 1 0]] [.rd Feature inferInstance 5 feE xs, .rp [] [.v (.int .i64 n)]] (ρ := fun i => match i with | 0 => sv | _ => .pointer (some ⟨k1, o1, none⟩)) (· < w.heap.size) rfl rfl rfl (by simp [svOkL, svOk]) (memRd (fun _ h => h) ⟨hs, h1, trivial⟩) ?_
  refine Or.inl ⟨_, fun ρ S w hm => onIdx_c xs n hx hl _ _ w (hm.rd 0 rfl rfl) (hm.rp 1 rfl rfl), ?_⟩
  exact fun ρ S w' hi => ⟨rfl, hi.below⟩
theorem on_c (f : Font) (n : Int) (hx : f.pfeats.length ≤ 9223372036854775807) (hl : ∀ x ∈ f.pfeats, x.lks.length ≤ 9223372036854775807) (v : Value) (w : World) (hv : FontV (· < w.heap.size) w f v) :
    Calls Try.prog 15 #[v, .int .i64 n] w fun e w' => e = .returned (.bool (onF f n)) ∧ Below w.heap.size w w' := by
  obtain ⟨a, c, m, s, sf, p, pf, rfl, h1, h2, h3, h4, h5, h6, h7⟩ := hv.get
  refine calls_exec (cf := cf) cfok (fn := Try.f15) Try.func15 rfl [.agg (foS f 0), .v (.int .i64 n)] (foC f) (ρ := rho7 a c m s sf p pf) (· < w.heap.size) rfl rfl rfl (by simp [svOkL, svOk]) (memRd (fun _ h => h) ⟨h1, h2, h3, h4, h5, h6, h7, trivial⟩) ?_
  refine Or.inl ⟨_, fun ρ S w hm => onCon_c f.pfeats n hx hl _ _ w (hm.rd 6 rfl rfl) (hm.rep 3 (.bx 8 0) _ rfl rfl), ?_⟩
  exact fun ρ S w' hi => ⟨rfl, hi.below⟩
end Go.Proofs.Ytaiapnemlnmeiaa
