/- slices.IndexFunc over the worker's closures. -/
import Derived.Test.YtaiapnemlnmeiaaT2
namespace Go.Proofs.Ytaiapnemlnmeiaa
open Go Go.Eng Go.RowKit

theorem retI {k : IntKind} {a b : Int} (h : a = b) : Ending.returned (.int k a) = Ending.returned (.int k b) := by rw [h]
def kernP (l : List Int) (at' j : Nat) (k : Kern) : Bool := decide (k.a = nth l at') && decide (k.b = nth l j)
def markP (l : List Int) (at' : Nat) (k : Mark) : Bool := decide (k.g = nth l at')
def baseP (l : List Int) (at' : Nat) (k : Base) : Bool := decide (k.g = nth l at')

theorem kernIdx_c (f : Font) (l : List Int) (out : List Place) (at' j : Nat) (hat' : at' < l.length) (hj : j < l.length) (xs : List Kern) (hx : xs.length ≤ 9223372036854775807) (sv v1 v2 v3 : Value) (w : World) (hs : Rd w sv 3 keE xs) (h1 : DRep (· < w.heap.size) w (.ptr [.ptr (woD f l out)]) v1) (h2 : DRep (· < w.heap.size) w (.ptr [.v (.int .i64 at')]) v2) (h3 : DRep (· < w.heap.size) w (.ptr [.v (.int .i64 j)]) v3) :
    Calls Try.prog 33 #[sv, .func (.func 34) #[] #[v1, v2, v3]] w fun e w' => e = .returned (.int .i64 (idxF (kernP l at' j) xs 0)) ∧ Below w.heap.size w w' := by
  obtain ⟨k1, o1, rfl⟩ : ∃ k o, v1 = .pointer (some ⟨k, o, none⟩) := by cases h1; exact ⟨_, _, rfl⟩
  obtain ⟨k2, o2, rfl⟩ : ∃ k o, v2 = .pointer (some ⟨k, o, none⟩) := by cases h2; exact ⟨_, _, rfl⟩
  obtain ⟨k3, o3, rfl⟩ : ∃ k o, v3 = .pointer (some ⟨k, o, none⟩) := by cases h3; exact ⟨_, _, rfl⟩
  refine calls_exec (cf := cf) cfok (fn := Try.f33) Try.func33 rfl [.sl 0, .fn 34 [.bx 1 0, .bx 2 0, .bx 3 0]] [.rd Kern inferInstance 3 keE xs, .rp [] [.ptr (woD f l out)], .rp [] [.v (.int .i64 at')], .rp [] [.v (.int .i64 j)]] (ρ := fun i => match i with | 0 => sv | 1 => .pointer (some ⟨k1, o1, none⟩) | 2 => .pointer (some ⟨k2, o2, none⟩) | _ => .pointer (some ⟨k3, o3, none⟩)) (· < w.heap.size) rfl rfl rfl (by simp [svOkL, svOk]) (memRd (fun _ h => h) ⟨hs, h1, h2, h3, trivial⟩) ?_
  refine ⟨{ i : Nat // i ≤ xs.length ∧ idxF (kernP l at' j) xs 0 = idxF (kernP l at' j) (xs.drop i) i }, fun i => ⟨19, [⟨0, [], .sl 0⟩, ⟨1, [], .fn 34 [.bx 1 0, .bx 2 0, .bx 3 0]⟩, ⟨7, [], .v (.int .i64 xs.length)⟩, ⟨8, [], .v (.int .i64 i.1)⟩], [.rd Kern inferInstance 3 keE xs, .rp [] [.ptr (woD f l out)], .rp [] [.v (.int .i64 at')], .rp [] [.v (.int .i64 j)]], [], dropL nats 4⟩, fun i => xs.length - i.1, ⟨[0, 1, 2, 3], ⟨0, by omega, rfl⟩, ?_⟩, fun i => ?_⟩
  · exact And.intro (And.intro rfl (And.intro rfl (And.intro rfl (And.intro rfl trivial)))) (And.intro rfl (And.intro ⟨rfl, rfl⟩ (And.intro ⟨rfl, rfl⟩ (And.intro ⟨rfl, rfl⟩ trivial))))
  obtain ⟨i, hi, hall⟩ := i
  refine And.intro (fun hlt => ?_) (fun hge => ?_)
  · have hlt : i < xs.length := by have : (i : Int) < (xs.length : Int) := of_decide_eq_true hlt
                                   omega
    rw [idxF_drop _ xs i hlt] at hall
    refine And.intro (show (0 : Int) ≤ (i : Int) ∧ (i : Int) < (xs.length : Int) from ⟨by omega, by omega⟩) ?_
    refine Or.inl ⟨.bool (kernP l at' j (nth xs i)), fun ρ S w hm => kern1_c f l out at' j hat' hj (nth xs i) _ _ _ w (hm.rp 1 rfl rfl) (hm.rp 2 rfl rfl) (hm.rp 3 rfl rfl), ?_⟩
    refine And.intro (fun hb => ?_) (fun hb => ?_)
    · have hb : kernP l at' j (nth xs i) = true := hb
      rw [if_pos hb] at hall
      exact fun ρ S w' hi' => ⟨retI hall.symm, hi'.below⟩
    · have hb : kernP l at' j (nth xs i) = false := hb
      rw [if_neg (fun h => by rw [hb] at h; cases h)] at hall
      exact ⟨[0, 1, 2, 3], ⟨i + 1, hlt, hall⟩, And.intro (And.intro rfl (And.intro rfl (And.intro rfl (And.intro (svI (i64_succ i (by omega))) trivial)))) (And.intro rfl (And.intro ⟨rfl, rfl⟩ (And.intro ⟨rfl, rfl⟩ (And.intro ⟨rfl, rfl⟩ trivial)))), by show _ - (i + 1) < _ - i; omega⟩
  · have hge : i = xs.length := by have : ¬ (i : Int) < (xs.length : Int) := of_decide_eq_false hge
                                   omega
    subst hge
    rw [List.drop_length] at hall
    exact fun ρ S w' hi' => ⟨retI hall.symm, hi'.below⟩

theorem markIdx_c (f : Font) (l : List Int) (out : List Place) (at' : Nat) (hat' : at' < l.length) (xs : List Mark) (hx : xs.length ≤ 9223372036854775807) (sv v1 v2 : Value) (w : World) (hs : Rd w sv 4 maE xs) (h1 : DRep (· < w.heap.size) w (.ptr [.ptr (woD f l out)]) v1) (h2 : DRep (· < w.heap.size) w (.ptr [.v (.int .i64 at')]) v2) :
    Calls Try.prog 36 #[sv, .func (.func 37) #[] #[v1, v2]] w fun e w' => e = .returned (.int .i64 (idxF (markP l at') xs 0)) ∧ Below w.heap.size w w' := by
  obtain ⟨k1, o1, rfl⟩ : ∃ k o, v1 = .pointer (some ⟨k, o, none⟩) := by cases h1; exact ⟨_, _, rfl⟩
  obtain ⟨k2, o2, rfl⟩ : ∃ k o, v2 = .pointer (some ⟨k, o, none⟩) := by cases h2; exact ⟨_, _, rfl⟩
  refine calls_exec (cf := cf) cfok (fn := Try.f36) Try.func36 rfl [.sl 0, .fn 37 [.bx 1 0, .bx 2 0]] [.rd Mark inferInstance 4 maE xs, .rp [] [.ptr (woD f l out)], .rp [] [.v (.int .i64 at')]] (ρ := fun i => match i with | 0 => sv | 1 => .pointer (some ⟨k1, o1, none⟩) | _ => .pointer (some ⟨k2, o2, none⟩)) (· < w.heap.size) rfl rfl rfl (by simp [svOkL, svOk]) (memRd (fun _ h => h) ⟨hs, h1, h2, trivial⟩) ?_
  refine ⟨{ i : Nat // i ≤ xs.length ∧ idxF (markP l at') xs 0 = idxF (markP l at') (xs.drop i) i }, fun i => ⟨19, [⟨0, [], .sl 0⟩, ⟨1, [], .fn 37 [.bx 1 0, .bx 2 0]⟩, ⟨7, [], .v (.int .i64 xs.length)⟩, ⟨8, [], .v (.int .i64 i.1)⟩], [.rd Mark inferInstance 4 maE xs, .rp [] [.ptr (woD f l out)], .rp [] [.v (.int .i64 at')]], [], dropL nats 3⟩, fun i => xs.length - i.1, ⟨[0, 1, 2], ⟨0, by omega, rfl⟩, ?_⟩, fun i => ?_⟩
  · exact And.intro (And.intro rfl (And.intro rfl (And.intro rfl (And.intro rfl trivial)))) (And.intro rfl (And.intro ⟨rfl, rfl⟩ (And.intro ⟨rfl, rfl⟩ trivial)))
  obtain ⟨i, hi, hall⟩ := i
  refine And.intro (fun hlt => ?_) (fun hge => ?_)
  · have hlt : i < xs.length := by have : (i : Int) < (xs.length : Int) := of_decide_eq_true hlt
                                   omega
    rw [idxF_drop _ xs i hlt] at hall
    refine And.intro (show (0 : Int) ≤ (i : Int) ∧ (i : Int) < (xs.length : Int) from ⟨by omega, by omega⟩) ?_
    refine Or.inl ⟨.bool (markP l at' (nth xs i)), fun ρ S w hm => stand1_c f l out at' hat' (nth xs i) _ _ w (hm.rp 1 rfl rfl) (hm.rp 2 rfl rfl), ?_⟩
    refine And.intro (fun hb => ?_) (fun hb => ?_)
    · have hb : markP l at' (nth xs i) = true := hb
      rw [if_pos hb] at hall
      exact fun ρ S w' hi' => ⟨retI hall.symm, hi'.below⟩
    · have hb : markP l at' (nth xs i) = false := hb
      rw [if_neg (fun h => by rw [hb] at h; cases h)] at hall
      exact ⟨[0, 1, 2], ⟨i + 1, hlt, hall⟩, And.intro (And.intro rfl (And.intro rfl (And.intro rfl (And.intro (svI (i64_succ i (by omega))) trivial)))) (And.intro rfl (And.intro ⟨rfl, rfl⟩ (And.intro ⟨rfl, rfl⟩ trivial))), by show _ - (i + 1) < _ - i; omega⟩
  · have hge : i = xs.length := by have : ¬ (i : Int) < (xs.length : Int) := of_decide_eq_false hge
                                   omega
    subst hge
    rw [List.drop_length] at hall
    exact fun ρ S w' hi' => ⟨retI hall.symm, hi'.below⟩

theorem baseIdx_c (f : Font) (l : List Int) (out : List Place) (at' : Nat) (hat' : at' < l.length) (xs : List Base) (hx : xs.length ≤ 9223372036854775807) (sv v1 v2 : Value) (w : World) (hs : Rd w sv 2 baE xs) (h1 : DRep (· < w.heap.size) w (.ptr [.ptr (woD f l out)]) v1) (h2 : DRep (· < w.heap.size) w (.ptr [.v (.int .i64 at')]) v2) :
    Calls Try.prog 38 #[sv, .func (.func 39) #[] #[v1, v2]] w fun e w' => e = .returned (.int .i64 (idxF (baseP l at') xs 0)) ∧ Below w.heap.size w w' := by
  obtain ⟨k1, o1, rfl⟩ : ∃ k o, v1 = .pointer (some ⟨k, o, none⟩) := by cases h1; exact ⟨_, _, rfl⟩
  obtain ⟨k2, o2, rfl⟩ : ∃ k o, v2 = .pointer (some ⟨k, o, none⟩) := by cases h2; exact ⟨_, _, rfl⟩
  refine calls_exec (cf := cf) cfok (fn := Try.f38) Try.func38 rfl [.sl 0, .fn 39 [.bx 1 0, .bx 2 0]] [.rd Base inferInstance 2 baE xs, .rp [] [.ptr (woD f l out)], .rp [] [.v (.int .i64 at')]] (ρ := fun i => match i with | 0 => sv | 1 => .pointer (some ⟨k1, o1, none⟩) | _ => .pointer (some ⟨k2, o2, none⟩)) (· < w.heap.size) rfl rfl rfl (by simp [svOkL, svOk]) (memRd (fun _ h => h) ⟨hs, h1, h2, trivial⟩) ?_
  refine ⟨{ i : Nat // i ≤ xs.length ∧ idxF (baseP l at') xs 0 = idxF (baseP l at') (xs.drop i) i }, fun i => ⟨19, [⟨0, [], .sl 0⟩, ⟨1, [], .fn 39 [.bx 1 0, .bx 2 0]⟩, ⟨7, [], .v (.int .i64 xs.length)⟩, ⟨8, [], .v (.int .i64 i.1)⟩], [.rd Base inferInstance 2 baE xs, .rp [] [.ptr (woD f l out)], .rp [] [.v (.int .i64 at')]], [], dropL nats 3⟩, fun i => xs.length - i.1, ⟨[0, 1, 2], ⟨0, by omega, rfl⟩, ?_⟩, fun i => ?_⟩
  · exact And.intro (And.intro rfl (And.intro rfl (And.intro rfl (And.intro rfl trivial)))) (And.intro rfl (And.intro ⟨rfl, rfl⟩ (And.intro ⟨rfl, rfl⟩ trivial)))
  obtain ⟨i, hi, hall⟩ := i
  refine And.intro (fun hlt => ?_) (fun hge => ?_)
  · have hlt : i < xs.length := by have : (i : Int) < (xs.length : Int) := of_decide_eq_true hlt
                                   omega
    rw [idxF_drop _ xs i hlt] at hall
    refine And.intro (show (0 : Int) ≤ (i : Int) ∧ (i : Int) < (xs.length : Int) from ⟨by omega, by omega⟩) ?_
    refine Or.inl ⟨.bool (baseP l at' (nth xs i)), fun ρ S w hm => stand2_c f l out at' hat' (nth xs i) _ _ _ w (hm.rd 3 rfl rfl) (hm.rp 1 rfl rfl) (hm.rp 2 rfl rfl), ?_⟩
    refine And.intro (fun hb => ?_) (fun hb => ?_)
    · have hb : baseP l at' (nth xs i) = true := hb
      rw [if_pos hb] at hall
      exact fun ρ S w' hi' => ⟨retI hall.symm, hi'.below⟩
    · have hb : baseP l at' (nth xs i) = false := hb
      rw [if_neg (fun h => by rw [hb] at h; cases h)] at hall
      exact ⟨[0, 1, 2], ⟨i + 1, hlt, hall⟩, And.intro (And.intro rfl (And.intro rfl (And.intro rfl (And.intro (svI (i64_succ i (by omega))) trivial)))) (And.intro rfl (And.intro ⟨rfl, rfl⟩ (And.intro ⟨rfl, rfl⟩ trivial))), by show _ - (i + 1) < _ - i; omega⟩
  · have hge : i = xs.length := by have : ¬ (i : Int) < (xs.length : Int) := of_decide_eq_false hge
                                   omega
    subst hge
    rw [List.drop_length] at hall
    exact fun ρ S w' hi' => ⟨retI hall.symm, hi'.below⟩

end Go.Proofs.Ytaiapnemlnmeiaa