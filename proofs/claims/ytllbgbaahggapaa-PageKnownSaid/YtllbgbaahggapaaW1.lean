/- What page.in, page.Frame.right, page.Right's closure and slices.IndexFunc over it compute, for every input; frames as many as an int can count. -/
import Derived.Test.YtllbgbaahggapaaCfg
namespace Go.Proofs.Ytllbgbaahggapaa
open Go Go.Eng Go.RowKit

structure Frame where
  X : Int
  Y : Int
  W : Int
  H : Int
  deriving Inhabited
def Frame.enc (f : Frame) : List DV := [.v (.int .i64 f.X), .v (.int .i64 f.Y), .v (.int .i64 f.W), .v (.int .i64 f.H)]
structure Spot where
  P : Int
  L : Int
  Pg : Int
  F : Int
  T : Int
  deriving Inhabited
def Spot.enc (s : Spot) : List DV := [.v (.int .i64 s.P), .v (.int .i64 s.L), .v (.int .i64 s.Pg), .v (.int .i64 s.F), .v (.int .i64 s.T)]
def Spot.sv (s : Spot) : SV := .agg [.v (.int .i64 s.P), .v (.int .i64 s.L), .v (.int .i64 s.Pg), .v (.int .i64 s.F), .v (.int .i64 s.T)]
def Spot.val (s : Spot) : Value := .agg #[.int .i64 s.P, .int .i64 s.L, .int .i64 s.Pg, .int .i64 s.F, .int .i64 s.T]

def inR (n a b : Int) : Bool := decide (n ≥ a) && decide (n ≤ b)

theorem in_c (n a b : Int) (w : World) : Calls Try.prog 19 #[.int .i64 n, .int .i64 a, .int .i64 b] w fun e w' => e = .returned (.bool (inR n a b)) ∧ Below w.heap.size w w' := by
  refine calls_exec (cf := cf) cfok (fn := Try.f19) Try.func19 rfl [.v (.int .i64 n), .v (.int .i64 a), .v (.int .i64 b)] [] (ρ := fun _ => undef) (· < w.heap.size) rfl rfl rfl (by simp [svOkL, svOk]) (memNil fun _ h => h) ?_
  exact fun ρ S w' hi => ⟨rfl, hi.below⟩

theorem in2_c (n a b : Int) (w : World) : Calls Try.prog 23 #[.int .i64 n, .int .i64 a, .int .i64 b] w fun e w' => e = .returned (.bool (inR n a b)) ∧ Below w.heap.size w w' := by
  refine calls_exec (cf := cf) cfok (fn := Try.f23) Try.func23 rfl [.v (.int .i64 n), .v (.int .i64 a), .v (.int .i64 b)] [] (ρ := fun _ => undef) (· < w.heap.size) rfl rfl rfl (by simp [svOkL, svOk]) (memNil fun _ h => h) ?_
  exact fun ρ S w' hi => ⟨rfl, hi.below⟩

abbrev MS : Int := 1099511627776
abbrev w64 (n : Int) : Int := IntKind.i64.wrap n
def rightF (f : Frame) (l : Int) : Bool := ((inR f.X 0 MS && inR f.Y 0 MS) && inR f.W 1 (w64 (MS - f.X))) && inR f.H l (w64 (MS - f.Y))

theorem right_c (f : Frame) (l : Int) (w : World) : Calls Try.prog 28 #[.agg #[.int .i64 f.X, .int .i64 f.Y, .int .i64 f.W, .int .i64 f.H], .int .i64 l] w fun e w' => e = .returned (.bool (rightF f l)) ∧ Below w.heap.size w w' := by
  refine calls_exec (cf := cf) cfok (fn := Try.f28) Try.func28 rfl [.agg [.v (.int .i64 f.X), .v (.int .i64 f.Y), .v (.int .i64 f.W), .v (.int .i64 f.H)], .v (.int .i64 l)] [] (ρ := fun _ => undef) (· < w.heap.size) rfl rfl rfl (by simp [svOkL, svOk]) (memNil fun _ h => h) ?_
  refine Or.inl ⟨_, fun ρ S w' hm => in_c _ _ _ _, ?_⟩
  refine Or.inl ⟨_, fun _ ρ S w' hm => in_c _ _ _ _, ?_⟩
  refine Or.inl ⟨_, fun _ ρ S w' hm => in_c _ _ _ _, ?_⟩
  refine Or.inl ⟨_, fun _ ρ S w' hm => in_c _ _ _ _, ?_⟩
  exact fun ρ S w' hi => ⟨rfl, hi.below⟩

/-- the closure of page.Right, its captured leading at p -/
theorem clo_c (f : Frame) (l : Int) (p : Value) (w : World) (hp : DRep (· < w.heap.size) w (.ptr [.v (.int .i64 l)]) p) :
    Calls Try.prog 27 #[.agg #[.int .i64 f.X, .int .i64 f.Y, .int .i64 f.W, .int .i64 f.H], p] w fun e w' => e = .returned (.bool (!rightF f l)) ∧ Below w.heap.size w w' := by
  cases hp with
  | ptr b o cell hb hcell hrep =>
  refine calls_exec (cf := cf) cfok (fn := Try.f27) Try.func27 rfl [.agg [.v (.int .i64 f.X), .v (.int .i64 f.Y), .v (.int .i64 f.W), .v (.int .i64 f.H)], .bx 0 0] [.rp [] [.v (.int .i64 l)]] (ρ := fun _ => .pointer (some ⟨b, o, none⟩)) (· < w.heap.size) rfl rfl rfl (by simp [svOkL, svOk]) (memRd (fun _ h => h) ⟨.ptr b o cell hb hcell hrep, trivial⟩) ?_
  refine Or.inl ⟨_, fun ρ S w' hm => right_c _ _ _, ?_⟩
  exact fun ρ S w' hi => ⟨rfl, hi.below⟩


/-- the number of the first frame that may not be; -1: all may -/
def badIx (l : Int) : Nat → List Frame → Int
  | _, [] => -1
  | i, f :: r => if rightF f l then badIx l (i + 1) r else i

theorem badIx_drop (l : Int) (fs : List Frame) : ∀ i, (∀ j, j < i → rightF (nth fs j) l = true) → i ≤ fs.length → badIx l 0 fs = badIx l i (fs.drop i) := by
  intro i
  induction i with
  | zero => intro _ _; simp
  | succ i ih =>
    intro h hi
    rw [ih (fun j hj => h j (by omega)) (by omega), List.drop_eq_getElem_cons (by omega)]
    have := h i (by omega)
    rw [nth_eq _ _ (by omega)] at this
    simp only [badIx, this, if_true]

theorem idx_c (fs : List Frame) (l : Int) (v p : Value) (w : World) (hlen : fs.length ≤ 9223372036854775807) (hv : Rd w v 4 Frame.enc fs) (hp : DRep (· < w.heap.size) w (.ptr [.v (.int .i64 l)]) p) :
    Calls Try.prog 29 #[v, .func (.func 27) #[] #[p]] w fun e w' => e = .returned (.int .i64 (badIx l 0 fs)) ∧ Below w.heap.size w w' := by
  cases hp with
  | ptr b o cell hb hcell hrep =>
  refine calls_exec (cf := cf) cfok (fn := Try.f29) Try.func29 rfl [.sl 0, .fn 27 [.bx 1 0]] [.rd Frame inferInstance 4 Frame.enc fs, .rp [] [.v (.int .i64 l)]] (ρ := fun i => match i with | 0 => v | _ => .pointer (some ⟨b, o, none⟩)) (· < w.heap.size) rfl rfl rfl (by simp [svOkL, svOk]) (memRd (fun _ h => h) ⟨hv, .ptr b o cell hb hcell hrep, trivial⟩) ?_
  refine ⟨{ i : Nat // i ≤ fs.length ∧ ∀ j, j < i → rightF (nth fs j) l = true },
    fun i => ⟨19, [⟨0, [], .sl 0⟩, ⟨1, [], .fn 27 [.bx 1 0]⟩, ⟨7, [], .v (.int .i64 fs.length)⟩, ⟨8, [], .v (.int .i64 i.1)⟩], [.rd Frame inferInstance 4 Frame.enc fs, .rp [] [.v (.int .i64 l)]], [], dropL nats 2⟩,
    fun i => fs.length - i.1, ⟨[0, 1], ⟨0, by omega, fun j hj => by omega⟩, ?_⟩, fun i => ?_⟩
  · exact And.intro (And.intro rfl (And.intro rfl (And.intro rfl (And.intro rfl trivial)))) (And.intro rfl (And.intro (And.intro rfl rfl) trivial))
  · obtain ⟨i, hi, hall⟩ := i
    refine And.intro (fun hlt => ?_) (fun hge => ?_)
    · have hlt : i < fs.length := by simpa using hlt
      refine And.intro ⟨by omega, by simpa using hlt⟩ ?_
      refine Or.inl ⟨_, fun ρ S w' hm => clo_c (nth fs i) l _ w' (hm.rp 1 rfl rfl), ?_⟩
      refine And.intro (fun hb => ?_) (fun hg => ?_)
      · have hb : rightF (nth fs i) l = false := by simpa using hb
        refine fun ρ S w' hi' => ⟨?_, hi'.below⟩
        rw [badIx_drop l fs i hall hi, List.drop_eq_getElem_cons hlt]
        rw [nth_eq _ _ hlt] at hb
        simp only [badIx, hb]
        rfl
      · have hg : rightF (nth fs i) l = true := by simpa using hg
        refine ⟨[0, 1], ⟨i + 1, hlt, fun j hj => ?_⟩, And.intro (And.intro rfl (And.intro rfl (And.intro rfl (And.intro (sv_i64 (i64_succ i (by omega))) trivial)))) (And.intro rfl (And.intro (And.intro rfl rfl) trivial)), by show _ - (i + 1) < _ - i; omega⟩
        by_cases e : j = i
        · subst e; exact hg
        · exact hall j (by omega)
    · have hge : i = fs.length := by have : ¬ i < fs.length := by simpa using hge
                                     omega
      refine fun ρ S w' hi' => ⟨?_, hi'.below⟩
      rw [badIx_drop l fs i hall hi, hge, List.drop_length]
      rfl

end Go.Proofs.Ytllbgbaahggapaa
