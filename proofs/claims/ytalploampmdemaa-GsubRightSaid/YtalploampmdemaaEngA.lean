/- The engine, first half: symbolic walking of Go code: its definitions and the first laws. Own text of this prover. -/
import Derived.WalkKit
import Derived.Deep.Quiet
import Derived.Below
import Derived.Laws.AppendOwn
import Derived.Deep.QuietTactic
import Derived.Laws.Cover3
import Derived.StillTail
import Derived.ScopeJumps
import Derived.Deep.LoopGhost
import Derived.RangeFuncNested
universe u
/-! part Eng -/
namespace Go.Eng
open Go.RowKit

/-! ### data -/
def nth {α : Type} [Inhabited α] (xs : List α) (i : Nat) : α := xs.getD i default

inductive DV : Type 1 where
  | v (x : Value)
  | sl (α : Type) (inh : Inhabited α) (sz : Nat) (enc : α → List DV) (xs : List α)
  | ptr (cells : List DV)

inductive SV : Type where
  | v (x : Value)
  | bx (id off : Nat)
  | el (id sz i off : Nat)
  | sl (id : Nat)
  | agg (l : List SV)
  | tup (l : List SV)
  | fn (f : Nat) (caps : List SV)
  | mv (f : Nat) (first caps : List SV)
  | junk

inductive Chunk : Type 1 where
  | bx (t : TypeId) (cells : List SV)
  | rd (α : Type) (inh : Inhabited α) (sz : Nat) (enc : α → List DV) (xs : List α)
  | cnd (L : List (Nat × Bool)) (α : Type) (inh : Inhabited α) (sz : Nat) (enc : α → List DV) (xs : List α)
  | own (t : TypeId) (α : Type) (inh : Inhabited α) (sz : Nat) (enc : α → List DV) (xs : List α)
  | raw (t : TypeId) (n sz : Nat) (cells : List SV)
  | rp (L : List (Nat × Bool)) (cells : List DV)
  | yk (l : Nat) (go : Bool) (k : Nat)
  | glb (g : Nat) (cells : List DV)
  | ob (ok : Obj → Prop)
  | dead

structure Ent where
  slot : Nat
  cond : List (Nat × Bool)
  sv : SV

structure BEnt where
  op : Nat
  slot : Nat
  cond : List (Nat × Bool)
  b : Bool

structure St : Type 1 where
  n : Nat
  env : List Ent
  ch : List Chunk
  bs : List BEnt
  ids : List Nat

/-- types, as far as the engine asks -/
inductive TyD where
  | int (k : IntKind) | bool | str
  | sl (e : Nat)
  | st (fs : List (Nat × Nat))
  | arr (n e : Nat)
  | ptr | fn | map
  | other

structure TyR where
  d : TyD
  size : Nat
  bytes : Nat
  zero : List Value

def TT := List TyR
def ttGet : List TyR → Nat → TyR
  | [], _ => ⟨.other, 0, 0, []⟩
  | r :: _, 0 => r
  | _ :: rs, n + 1 => ttGet rs n
def fldGet : List (Nat × Nat) → Nat → Option (Nat × Nat)
  | [], _ => none
  | r :: _, 0 => some r
  | _ :: rs, n + 1 => fldGet rs n
def chGet : List Chunk → Nat → Chunk
  | [], _ => .dead
  | r :: _, 0 => r
  | _ :: rs, n + 1 => chGet rs n

mutual
def den (ρ : Nat → Value) : SV → Value
  | .v x => x
  | .bx id off => match ρ id with | .pointer (some a) => .pointer (some ⟨a.block, a.off + off, none⟩) | .slice (some a) _ _ => .pointer (some ⟨a.block, a.off + off, none⟩) | _ => undef
  | .el id sz i off => match ρ id with | .slice (some a) _ _ => .pointer (some ⟨a.block, a.off + i * sz + off, none⟩) | _ => undef
  | .sl id => ρ id
  | .agg l => .agg (denL ρ l).toArray
  | .tup l => .tuple (denL ρ l).toArray
  | .fn f caps => .func (.func f) #[] (denL ρ caps).toArray
  | .mv f first caps => .func (.func f) (denL ρ first).toArray (denL ρ caps).toArray
  | .junk => undef
def denL (ρ : Nat → Value) : List SV → List Value
  | [] => []
  | s :: r => den ρ s :: denL ρ r
end

inductive DRep (S : Nat → Prop) (w : World) : DV → Value → Prop where
  | v (x : Value) (h : x.oneCell' = true) : DRep S w (.v x) x
  | sl {α : Type} {inh : Inhabited α} {sz : Nat} {enc : α → List DV} {xs : List α} (ad : Option Addr) (c b o : Nat) (cell : Nat → Nat → Value) :
      xs.length ≤ c → (xs ≠ [] → ad = some ⟨b, o, none⟩ ∧ S b) →
      (∀ i j d, i < xs.length → (enc (nth xs i))[j]? = some d → w.cell? ⟨b, o + i * sz + j, none⟩ = some (cell i j)) →
      (∀ i j d, i < xs.length → (enc (nth xs i))[j]? = some d → DRep S w d (cell i j)) →
      DRep S w (.sl α inh sz enc xs) (.slice ad xs.length c)
  | ptr {cells : List DV} (b o : Nat) (cell : Nat → Value) : S b →
      (∀ (j : Nat) d, cells[j]? = some d → w.cell? ⟨b, o + j, none⟩ = some (cell j)) → (∀ (j : Nat) d, cells[j]? = some d → DRep S w d (cell j)) →
      DRep S w (.ptr cells) (.pointer (some ⟨b, o, none⟩))

/-! ### conditions of a region's guards -/
def lookB : List BEnt → Nat → Option BEnt
  | [], _ => none
  | e :: r, j => match Nat.beq e.op j with | true => some e | false => lookB r j

def holds (bs : List BEnt) : List (Nat × Bool) → Prop
  | [] => True
  | (j, w) :: r => (match lookB bs j with | some e => e.b = w | none => False) ∧ holds bs r

def impB (bs : List BEnt) : List (Nat × Bool) → Prop → Prop
  | [], p => p
  | (j, w) :: r, p => match lookB bs j with
    | some ⟨_, _, _, b⟩ => b = w → impB bs r p
    | none => impB bs r p

def subL (a b : List (Nat × Bool)) : Bool := a.all fun p => b.any fun q => Nat.beq p.1 q.1 && (p.2 == q.2)

def lookE : List Ent → Nat → Option Ent
  | [], _ => none
  | e :: r, s => match Nat.beq e.slot s with | true => some e | false => lookE r s


def condOf (bs : List BEnt) : Option (Nat × Bool) → Option (List (Nat × Bool))
  | none => some []
  | some (j, w) => match lookB bs j with | some ⟨_, _, L, _⟩ => some ((j, w) :: L) | none => none

def getV (st : St) (L : List (Nat × Bool)) : Operand → Option SV
  | .tmp t => match lookE st.env t with
    | some ⟨_, L', sv⟩ => match subL L' L with
      | true => (match sv with | .junk => none | s => some s)
      | false => none
    | none => none
  | .const v => some (.v v)
  | .func f => some (.v (.func (.func f) #[] #[]))
  | .global g => some (.v (.pointer (some ⟨g, 0, none⟩)))

def getVs (st : St) (L : List (Nat × Bool)) : List Operand → Option (List SV)
  | [] => some []
  | x :: r => match getV st L x with
    | some s => match getVs st L r with | some l => some (s :: l) | none => none
    | none => none

/-! ### arithmetic -/
inductive Ev where
  | ok (v : Value)
  | ob (p : Prop) (v : Value)
  | no

def bitsV (op : BinOp) (k : IntKind) (x y : Int) : Int :=
  let a := BitVec.ofInt k.bits x
  let b := BitVec.ofInt k.bits y
  match op with
  | .and => k.wrap (a &&& b).toNat
  | .or => k.wrap (a ||| b).toNat
  | .xor => k.wrap (a ^^^ b).toNat
  | _ => k.wrap (a &&& ~~~b).toNat

def shlV (k : IntKind) (x y : Int) : Int := k.wrap (x * 2 ^ (min y.toNat k.bits))
def shrV (k : IntKind) (x y : Int) : Int := x.fdiv (2 ^ (min y.toNat k.bits))

def binInt : BinOp → IntKind → Int → Int → Ev
  | .add, k, a, b => .ok (.int k (k.wrap (a + b)))
  | .sub, k, a, b => .ok (.int k (k.wrap (a - b)))
  | .mul, k, a, b => .ok (.int k (k.wrap (a * b)))
  | .quo, k, a, b => .ob (b ≠ 0) (.int k (k.wrap (a.tdiv b)))
  | .rem, k, a, b => .ob (b ≠ 0) (.int k (a.tmod b))
  | .and, k, a, b => .ok (.int k (bitsV .and k a b))
  | .or, k, a, b => .ok (.int k (bitsV .or k a b))
  | .xor, k, a, b => .ok (.int k (bitsV .xor k a b))
  | .andNot, k, a, b => .ok (.int k (bitsV .andNot k a b))
  | .eql, _, a, b => .ok (.bool (decide (a = b)))
  | .neq, _, a, b => .ok (.bool (!decide (a = b)))
  | .lss, _, a, b => .ok (.bool (decide (a < b)))
  | .leq, _, a, b => .ok (.bool (decide (a ≤ b)))
  | .gtr, _, a, b => .ok (.bool (decide (a > b)))
  | .geq, _, a, b => .ok (.bool (decide (a ≥ b)))
  | _, _, _, _ => .no

def kEq : IntKind → IntKind → Bool
  | .i8, .i8 => true | .i16, .i16 => true | .i32, .i32 => true | .i64, .i64 => true
  | .u8, .u8 => true | .u16, .u16 => true | .u32, .u32 => true | .u64, .u64 => true
  | _, _ => false

def strCat (a b : ByteArray) : ByteArray := a ++ b

def binV (d : TyD) : BinOp → Value → Value → Ev
  | .shl, .int k a, .int _ b => .ob (0 ≤ b) (.int k (shlV k a b))
  | .shr, .int k a, .int _ b => .ob (0 ≤ b) (.int k (shrV k a b))
  | op, .int k a, .int k' b => match kEq k k' with | true => binInt op k a b | false => .no
  | .eql, .bool a, .bool b => match d with | .bool => .ok (.bool (a == b)) | _ => .no
  | .neq, .bool a, .bool b => match d with | .bool => .ok (.bool (!(a == b))) | _ => .no
  | .eql, .string a, .string b => .ok (.bool (a.toList == b.toList))
  | .neq, .string a, .string b => .ok (.bool (!(a.toList == b.toList)))
  | .add, .string a, .string b => .ob (((a.size + b.size : Nat) : Int) ≤ IntKind.i64.max) (.string (a ++ b))
  | _, _, _ => .no

def unV : UnOp → Value → Ev
  | .not, .bool b => .ok (.bool (!b))
  | .neg, .int k n => .ok (.int k (k.wrap (0 - n)))
  | .xor, .int k n => .ok (.int k (bitsV .xor k (if k.signed then -1 else k.max) n))
  | _, _ => .no

/-! ### quiet operations -/
def snocL {α : Type u} : List α → α → List α
  | [], x => [x]
  | a :: r, x => a :: snocL r x
/-- lists made whole at each step (a step's goal is worked out from the outside: what is not made whole is worked out again and again) -/
def snocK {α : Type u} : List α → α → (List α → Prop) → Prop
  | [], x, K => K [x]
  | a :: r, x, K => snocK r x (fun l => K (a :: l))
theorem snocK_eq {α : Type u} : ∀ (l : List α) (x : α) (K : List α → Prop), snocK l x K = K (snocL l x)
  | [], _, _ => rfl
  | a :: r, x, K => by simp only [snocK, snocL, snocK_eq r x]
/-- a new chunk, and its number -/
def newCh (st : St) (c : Chunk) (K : St → Nat → Prop) : Prop :=
  match st with
  | ⟨n, env, ch, bs, ids⟩ => match ids with
    | i :: is => match Nat.beq i ch.length with
      | true => snocK ch c (fun ch' => K ⟨n, env, ch', bs, is⟩ i)
      | false => False
    | [] => False

def rdOr (L : List (Nat × Bool)) (α : Type) (inh : Inhabited α) (sz : Nat) (enc : α → List DV) (xs : List α) : Chunk :=
  match L with | [] => .rd α inh sz enc xs | _ => .cnd L α inh sz enc xs

def dvs2svs (L : List (Nat × Bool)) : List DV → St → (St → List SV → Prop) → Prop
  | [], st, K => K st []
  | .v x :: r, st, K => dvs2svs L r st (fun st' l => K st' (.v x :: l))
  | .sl α inh sz enc xs :: r, st, K =>
    newCh st (rdOr L α inh sz enc xs) (fun st' id => dvs2svs L r st' (fun st'' l => K st'' (.sl id :: l)))
  | .ptr cells :: r, st, K =>
    newCh st (.rp L cells) (fun st' id => dvs2svs L r st' (fun st'' l => K st'' (.bx id 0 :: l)))

def dropL {α : Type u} : List α → Nat → List α
  | l, 0 => l
  | [], _ + 1 => []
  | _ :: r, n + 1 => dropL r n
def takeL {α : Type u} : List α → Nat → List α
  | _, 0 => []
  | [], _ + 1 => []
  | a :: r, n + 1 => a :: takeL r n

def knownD : TyD → Bool
  | .other => false
  | _ => true
def isAggD : TyD → Bool
  | .st _ => true
  | .arr _ _ => true
  | _ => false

/-- what lies in the element's cells -/
def elemCells (c : Chunk) (sz i : Nat) : Option (List DV) :=
  match c with
  | .rd _ _ sz' enc xs => match Nat.beq sz sz' with | true => some (enc (nth xs i)) | false => none
  | .cnd _ _ _ sz' enc xs => match Nat.beq sz sz' with | true => some (enc (nth xs i)) | false => none
  | .own _ _ _ sz' enc xs => match Nat.beq sz sz' with | true => some (enc (nth xs i)) | false => none
  | _ => none

def lenOf (c : Chunk) : Option Nat :=
  match c with
  | .rd _ _ _ _ xs => some xs.length
  | .cnd _ _ _ _ _ xs => some xs.length
  | .own _ _ _ _ _ xs => some xs.length
  | .raw _ n _ _ => some n
  | _ => none

def condC (c : Chunk) (L : List (Nat × Bool)) : Bool :=
  match c with
  | .cnd L' _ _ _ _ _ => subL L' L
  | .rp L' _ => subL L' L
  | _ => true

def isBx : Chunk → Bool
  | .bx _ _ => true
  | .rp _ _ => true
  | _ => false
/-- a global variable whose cells are known -/
def findG : List Chunk → Nat → Option (List DV)
  | [], _ => none
  | c :: r, g => match c with
    | .glb g' ds => (match Nat.beq g' g with | true => some ds | false => findG r g)
    | _ => findG r g
/-- is it the address of a cell? -/
def addrOk (st : St) (L : List (Nat × Bool)) : SV → Bool
  | .bx id _ => match isBx (chGet st.ch id), condC (chGet st.ch id) L with | true, true => true | _, _ => false
  | .el id _ _ _ => match lenOf (chGet st.ch id), condC (chGet st.ch id) L with | some _, true => true | _, _ => false
  | .v (.pointer (some ⟨g, _, none⟩)) => match findG st.ch g with | some _ => true | none => false
  | _ => false
def addOff (k : Nat) : SV → SV
  | .bx id off => .bx id (off + k)
  | .el id sz i off => .el id sz i (off + k)
  | .v (.pointer (some ⟨g, off, none⟩)) => .v (.pointer (some ⟨g, off + k, none⟩))
  | s => s

/-- a load out of known data -/
def loadD (st : St) (L : List (Nat × Bool)) (r : TyR) (off : Nat) (ds : List DV) (K : St → SV → Prop) : Prop :=
  match isAggD r.d with
  | false => match dropL ds off with
    | .v x :: _ => K st (.v x)
    | .sl α inh sz enc xs :: _ => newCh st (rdOr L α inh sz enc xs) (fun st' id => K st' (.sl id))
    | .ptr cells :: _ => newCh st (.rp L cells) (fun st' id => K st' (.bx id 0))
    | [] => False
  | true => match Nat.ble (off + r.size) ds.length with
    | true => dvs2svs L (takeL (dropL ds off) r.size) st (fun st' l => K st' (.agg l))
    | false => False

def loadK (tt : TT) (st : St) (L : List (Nat × Bool)) (t : Nat) (x : SV) (K : St → SV → Prop) : Prop :=
  let r := ttGet tt t
  match addrOk st L x, knownD r.d with
  | true, true => (match x with
  | .bx id off => match chGet st.ch id with
    | .bx _ cells => match isAggD r.d with
      | false => match dropL cells off with | s :: _ => K st s | [] => False
      | true => match Nat.ble (off + r.size) cells.length with | true => K st (.agg (takeL (dropL cells off) r.size)) | false => False
    | .rp _ ds => loadD st L r off ds K
    | _ => False
  | .el id sz i off => match elemCells (chGet st.ch id) sz i with
    | some ds => loadD st L r off ds K
    | none => (match chGet st.ch id with
      | .raw _ _ sz' cells => (match Nat.beq sz sz', isAggD r.d with
        | true, false => match dropL cells (i * sz + off) with | s :: _ => K st s | [] => False
        | true, true => match Nat.ble (i * sz + off + r.size) cells.length with | true => K st (.agg (takeL (dropL cells (i * sz + off)) r.size)) | false => False
        | false, _ => False)
      | _ => False)
  | .v (.pointer (some ⟨g, off, none⟩)) => (match findG st.ch g with
    | some ds => loadD st L r off ds K
    | none => False)
  | _ => False)
  | _, _ => False

def szOf (c : Chunk) : Option Nat :=
  match c with
  | .rd _ _ sz _ _ => some sz
  | .cnd _ _ _ sz _ _ => some sz
  | .own _ _ _ sz _ _ => some sz
  | .raw _ _ sz _ => some sz
  | _ => none

def evK (st : St) (L : List (Nat × Bool)) (K : St → SV → Prop) : Ev → Prop
  | .ok v => K st (.v v)
  | .ob p v => impB st.bs L p ∧ K st (.v v)
  | .no => False

def spliceL (cs : List SV) (off : Nat) (ns : List SV) : List SV :=
  match cs, off with
  | cs, 0 => ns ++ dropL cs ns.length
  | [], _ + 1 => []
  | c :: r, o + 1 => c :: spliceL r o ns

def cellsOf : SV → List SV
  | .agg l => l
  | .v (.agg cs) => cs.toList.map .v
  | s => [s]

def isOb : Chunk → Bool
  | .ob _ => true
  | _ => false
/-- one cell -/
def cellOk (st : St) (L : List (Nat × Bool)) : SV → Bool
  | .v (.agg _) => false
  | .v (.tuple _) => false
  | .v _ => true
  | .sl id => match lenOf (chGet st.ch id), condC (chGet st.ch id) L with | some _, true => true | none, _ => isOb (chGet st.ch id) | _, _ => false
  | .fn _ _ => true
  | .mv _ _ _ => true
  | .agg _ => false
  | .tup _ => false
  | .junk => false
  | s => addrOk st L s
def flatOk (st : St) (L : List (Nat × Bool)) : SV → Bool
  | .agg _ => true
  | .v (.tuple _) => false
  | .v _ => true
  | s => cellOk st L s
def allCell (st : St) (L : List (Nat × Bool)) : List SV → Bool
  | [] => true
  | s :: r => match cellOk st L s with | true => allCell st L r | false => false

def fillS (fs : Nat → Option (Nat × Nat)) (st : St) (L : List (Nat × Bool)) (cells : List SV) : List (Nat × Operand) → Option (List SV)
  | [] => some cells
  | (i, x) :: r => match fs i with
    | none => none
    | some (off, size) => match getV st L x with
      | none => none
      | some s => match flatOk st L s, Nat.beq (cellsOf s).length size, Nat.ble (off + size) cells.length with
        | true, true, true => fillS fs st L (spliceL cells off (cellsOf s)) r
        | _, _, _ => none

def constB : Operand → Option Bool
  | .const (.bool b) => some b
  | _ => none

def findB : List BEnt → Nat → Option BEnt
  | [], _ => none
  | e :: r, s => match Nat.beq e.slot s with | true => some e | false => findB r s

mutual
def svOk (ch : List Chunk) : SV → Prop
  | .v _ => True
  | .bx id _ => id < ch.length
  | .el id sz i _ => id < ch.length ∧ ∀ n, lenOf (chGet ch id) = some n → i < n ∧ szOf (chGet ch id) = some sz
  | .sl id => id < ch.length
  | .agg l => svOkL ch l
  | .tup l => svOkL ch l
  | .fn _ caps => svOkL ch caps
  | .mv _ first caps => svOkL ch first ∧ svOkL ch caps
  | .junk => True
def svOkL (ch : List Chunk) : List SV → Prop
  | [] => True
  | s :: r => svOk ch s ∧ svOkL ch r
end

def OwnOk (S : Nat → Prop) (w : World) (t : TypeId) (α : Type) (inh : Inhabited α) (sz : Nat) (enc : α → List DV) (xs : List α) (v : Value) : Prop :=
  ∃ vals, w.ownsRow 0 t sz v xs.length vals ∧ ∀ i j d, i < xs.length → (enc (nth xs i))[j]? = some d → ∃ x, vals[i * sz + j]? = some x ∧ j < sz ∧ DRep S w d x

def ChunkOk (bs : List BEnt) (S : Nat → Prop) (w : World) (ρ : Nat → Value) : Chunk → Value → Prop
  | .bx t cells, v => ∃ b, v = .pointer (some ⟨b, 0, none⟩) ∧ w.heap[b]? = some (.cells (denL ρ cells).toArray t (0, 0))
  | .rd α inh sz enc xs, v => DRep S w (.sl α inh sz enc xs) v
  | .cnd L α inh sz enc xs, v => holds bs L → DRep S w (.sl α inh sz enc xs) v
  | .own t α inh sz enc xs, v => OwnOk S w t α inh sz enc xs v
  | .raw t n _ cells, v => ∃ b, v = .slice (some ⟨b, 0, none⟩) n n ∧ w.heap[b]? = some (.cells (denL ρ cells).toArray t (0, 0))
  | .rp L cells, v => holds bs L → DRep S w (.ptr cells) v
  | .glb g cells, _ => S g ∧ ∃ cs e fz, w.heap[g]? = some (.cells cs e fz) ∧ cs.size = cells.length ∧ ∀ (j : Nat) d, cells[j]? = some d → ∃ x, cs[j]? = some x ∧ DRep S w d x
  | .ob ok, v => ∃ r o, v = .map (some r) ∧ w.heap[r]? = some o ∧ ok o
  | .yk _ _ _, _ => True
  | .dead, _ => True

def noY : Chunk → Bool
  | .yk _ _ _ => false
  | _ => true
def cellsIn : Chunk → List SV
  | .bx _ cells => cells
  | .raw _ _ _ cells => cells
  | _ => []

def ownBlk : Chunk → Value → Option Nat
  | .bx _ _, .pointer (some a) => some a.block
  | .own .., v => v.ownBlock
  | .raw .., v => v.ownBlock
  | .ob _, .map (some r) => some r
  | _, _ => none

def condsOf : Chunk → List (Nat × Bool)
  | .cnd L _ _ _ _ _ => L
  | .rp L _ => L
  | _ => []
def closed (bs : List BEnt) (L : List (Nat × Bool)) : Prop := ∀ p ∈ L, ∃ e, lookB bs p.1 = some e

structure MemOk (st : St) (ρ : Nat → Value) (S : Nat → Prop) (w : World) : Prop where
  ok : ∀ id, id < st.ch.length → ChunkOk st.bs S w ρ (chGet st.ch id) (ρ id)
  cells : ∀ id, svOkL st.ch (cellsIn (chGet st.ch id))
  sep : ∀ i j b, i < st.ch.length → j < st.ch.length → i ≠ j → ownBlk (chGet st.ch i) (ρ i) = some b → ownBlk (chGet st.ch j) (ρ j) ≠ some b
  out : ∀ i b, i < st.ch.length → ownBlk (chGet st.ch i) (ρ i) = some b → ¬ S b
  lt : ∀ b, S b → b < w.heap.size
  ccl : ∀ id, closed st.bs (condsOf (chGet st.ch id))

structure Cfg where
  P : Program
  tt : TT
  fns : List Nat
  /-- in a round of a range over a function? -/
  rd : Bool := false
  /-- of an iterator: how often it yields, and what -/
  yN : Nat := 0
  yv : Nat → List Value := fun _ => []

/-- a call that hands back a plain value and leaves all that was there as it was -/
def QCall (P : Program) (st : St) (f : Nat) (args : List SV) (r : Value) : Prop :=
  ∀ ρ S w, MemOk st ρ S w → Calls P f (denL ρ args).toArray w fun e w' => e = .returned r ∧ Below w.heap.size w w'

def hasN : List Nat → Nat → Bool
  | [], _ => false
  | a :: r, n => match Nat.beq a n with | true => true | false => hasN r n

def qbuiltin (tt : TT) (st : St) (L : List (Nat × Bool)) (b : Builtin) (args : List Operand) (ts : List TypeId) (K : St → SV → Prop) : Prop :=
  match b with
  | .len => match args, ts with
    | [x], [t] => (match getV st L x with
      | some (.sl id) => (match (ttGet tt t).d, lenOf (chGet st.ch id), condC (chGet st.ch id) L with
        | .sl _, some len, true => K st (.v (.int .i64 len))
        | _, _, _ => False)
      | some (.v (.string s)) => (match (ttGet tt t).d with | .str => K st (.v (.int .i64 s.size)) | _ => False)
      | some (.v (.slice none 0 0)) => (match (ttGet tt t).d with | .sl _ => K st (.v (.int .i64 0)) | _ => False)
      | some (.v (.slice (some _) n _)) => (match (ttGet tt t).d with | .sl _ => K st (.v (.int .i64 n)) | _ => False)
      | _ => False)
    | _, _ => False
  | .min => match args with
    | [x, y] => (match getV st L x, getV st L y with
      | some (.v (.int k a)), some (.v (.int _ b)) => K st (.v (.int k (min a b)))
      | _, _ => False)
    | _ => False
  | .max => match args with
    | [x, y] => (match getV st L x, getV st L y with
      | some (.v (.int k a)), some (.v (.int _ b)) => K st (.v (.int k (max a b)))
      | _, _ => False)
    | _ => False
  | _ => False

/-- what an operation computes, said by hand -/
def PureQ (P : Program) (st : St) (L : List (Nat × Bool)) (op : Op) (r : Value) : Prop :=
  ∀ (ρ : Nat → Value) (S : Nat → Prop) (w : World) (e : Operand → Value) (o : Oper), MemOk st ρ S w → holds st.bs L → (∀ x s, getV st L x = some s → e x = den ρ s) → o.op = op → (execOp e o).run P w = .ok (.value r) w
def pureK (P : Program) (st : St) (L : List (Nat × Bool)) (op : Op) (K : St → SV → Prop) : Prop :=
  ∃ r : Value, impB st.bs L (PureQ P st L op r) ∧ K st (.v r)
/-- the same, where what comes back may be an address -/
def PureS (P : Program) (st : St) (L : List (Nat × Bool)) (op : Op) (s : SV) : Prop :=
  ∀ (ρ : Nat → Value) (S : Nat → Prop) (w : World) (e : Operand → Value) (o : Oper), MemOk st ρ S w → holds st.bs L → (∀ x s, getV st L x = some s → e x = den ρ s) → o.op = op → (execOp e o).run P w = .ok (.value (den ρ s)) w
def pureSK (P : Program) (st : St) (L : List (Nat × Bool)) (op : Op) (K : St → SV → Prop) : Prop :=
  ∃ s : SV, svOk st.ch s ∧ impB st.bs L (PureS P st L op s) ∧ K st s
def makeFuncK (P : Program) (st : St) (L : List (Nat × Bool)) (fn : Fn) (first caps : Array Operand) (K : St → SV → Prop) : Prop :=
  match first.toList with
  | [] => (match fn, getVs st L caps.toList with
    | .func f, some l => K st (.fn f l)
    | _, _ => False)
  | _ => (match fn, getVs st L first.toList, getVs st L caps.toList with
    | .func f, some l1, some l2 => K st (.mv f l1 l2)
    | _, _, _ => pureK P st L (.makeFunc fn first caps) K)
/-- is a slice nil? -/
def nilK (tt : TT) (st : St) (L : List (Nat × Bool)) (t id : Nat) (pos : Bool) (K : St → SV → Prop) : Prop :=
  match (ttGet tt t).d, lenOf (chGet st.ch id), condC (chGet st.ch id) L with
  | .sl _, some len, true => ∀ b : Bool, (b = pos → len = 0) → K st (.v (.bool b))
  | _, _, _ => False

def binK (P : Program) (tt : TT) (st : St) (L : List (Nat × Bool)) (op : BinOp) (t : Nat) (x y : Operand) (g : Nat) (K : St → SV → Prop) : Prop :=
  match getV st L x, getV st L y with
  | some (.v a), some (.v b) => (match binV (ttGet tt t).d op a b with
    | .no => pureK P st L (.binOp op t x y g) K
    | ev => evK st L K ev)
  | some (.sl id), some (.v (.slice none 0 0)) => (match op with
    | .eql => nilK tt st L t id true K
    | .neq => nilK tt st L t id false K
    | _ => False)
  | _, _ => pureK P st L (.binOp op t x y g) K

/-- bounds of a slice expression -/
def bndV (st : St) (L : List (Nat × Bool)) (d : Int) : Option Operand → Option Int
  | none => some d
  | some x => match getV st L x with | some (.v (.int _ n)) => some n | _ => none
def midL {α : Type u} (xs : List α) (l h : Nat) : List α := (xs.drop l).take (h - l)
/-- all of an array, which is only read, as a slice -/
def arrSlK (st : St) (L : List (Nat × Bool)) (size n off : Nat) (ds : List DV) (K : St → SV → Prop) : Prop :=
  ∃ (α : Type) (inh : Inhabited α) (enc : α → List DV) (xs : List α), xs.length = n ∧ takeL (dropL ds off) (n * size) = xs.flatMap enc ∧ (∀ y ∈ xs, (enc y).length = size) ∧
    newCh st (rdOr L α inh size enc xs) (fun st' id => K st' (.sl id))
def sliceK (tt : TT) (st : St) (L : List (Nat × Bool)) (t : Nat) (x : Operand) (lo hi : Option Operand) (K : St → SV → Prop) : Prop :=
  match (ttGet tt t).d, getV st L x with
  | .str, some (.v (.string s)) => (match bndV st L 0 lo, bndV st L s.size hi with
    | some l, some h => impB st.bs L (0 ≤ l ∧ l ≤ h ∧ h ≤ s.size) ∧ K st (.v (.string (s.extract l.toNat h.toNat)))
    | _, _ => False)
  | .sl e, some (.sl id) => (match chGet st.ch id with
    | .rd α inh sz enc xs => (match bndV st L 0 lo, bndV st L xs.length hi, Nat.beq sz (ttGet tt e).size, knownD (ttGet tt e).d with
      | some l, some h, true, true => impB st.bs L (0 ≤ l ∧ l ≤ h ∧ h ≤ xs.length) ∧ newCh st (rdOr L α inh sz enc (midL xs l.toNat h.toNat)) (fun st' id => K st' (.sl id))
      | _, _, _, _ => False)
    | .cnd L' α inh sz enc xs => (match subL L' L, bndV st L 0 lo, bndV st L xs.length hi, Nat.beq sz (ttGet tt e).size, knownD (ttGet tt e).d with
      | true, some l, some h, true, true => impB st.bs L (0 ≤ l ∧ l ≤ h ∧ h ≤ xs.length) ∧ newCh st (rdOr L α inh sz enc (midL xs l.toNat h.toNat)) (fun st' id => K st' (.sl id))
      | _, _, _, _, _ => False)
    | _ => False)
  | .sl e, some (.v (.slice none 0 0)) => (match bndV st L 0 lo, bndV st L 0 hi, knownD (ttGet tt e).d with
    | some l, some h, true => impB st.bs L (l = 0 ∧ h = 0) ∧ K st (.v (.slice none 0 0))
    | _, _, _ => False)
  | .arr n e, some (.bx id off) => (match chGet st.ch id, lo, hi, knownD (ttGet tt e).d with
    | .rp [] ds, none, none, true => arrSlK st L (ttGet tt e).size n off ds K
    | _, _, _, _ => False)
  | _, _ => False

/-- a pointer to an array whose row is a chunk -/
def arrC (c : Chunk) : Option Nat :=
  match c with
  | .own _ _ _ _ _ xs => some xs.length
  | _ => none
def arrNil (st : St) (L : List (Nat × Bool)) (s : SV) (K : St → SV → Prop) : Prop :=
  match s with
  | .bx id off => (match arrC (chGet st.ch id) with
    | some len => impB st.bs L (0 < len) ∧ K st (.bx id off)
    | none => False)
  | _ => False
/-- an element of an array behind a pointer -/
def arrAt (st : St) (L : List (Nat × Bool)) (s : SV) (n sz : Nat) (j : Int) (K : St → SV → Prop) : Prop :=
  match addrOk st L s with
  | true => (match s with
    | .v _ => impB st.bs L (0 ≤ j ∧ j < n) ∧ K st (addOff (j.toNat * sz) s)
    | s => (match j with
      | .ofNat j => (match Nat.blt j n with | true => K st (addOff (j * sz) s) | false => False)
      | _ => False))
  | false => (match s with
    | .bx id 0 => (match arrC (chGet st.ch id), szOf (chGet st.ch id) with
      | some len, some sz' => (match Nat.beq sz' sz with
        | true => impB st.bs L (0 ≤ j ∧ j < n ∧ j < len) ∧ K st (.el id sz j.toNat 0)
        | false => False)
      | _, _ => False)
    | _ => False)

/-- a value, all of it known -/
def plainL : List SV → Option (List Value)
  | [] => some []
  | s :: r => match s with
    | .v x => (match plainL r with | some l => some (x :: l) | none => none)
    | _ => none
def plainV : SV → Option Value
  | .v x => some x
  | .agg l => (match plainL l with | some vs => some (.agg vs.toArray) | none => none)
  | _ => none
/-- a slice whose place is known -/
def plainSl : Option SV → Bool
  | some (.v (.slice (some _) _ _)) => true
  | _ => false

def qop (cf : Cfg) (tt : TT) (st : St) (L : List (Nat × Bool)) (op : Op) (K : St → SV → Prop) : Prop :=
  match op with
  | .move x | .assign x => match getV st L x with | some s => K st s | none => False
  | .pick (.tmp c) a b =>
    match findB st.bs c with
    | none => (match getV st L (.tmp c), getV st L a, getV st L b with
      | some (.v (.bool x)), some (.v (.bool y)), some (.v (.bool z)) => K st (.v (.bool (bif x then y else z)))
      | _, _, _ => False)
    | some ⟨j, _, Lc, c⟩ => match subL Lc L with
      | false => False
      | true => match getV st ((j, true) :: Lc) a, getV st ((j, false) :: Lc) b with
        | some (.v (.bool x)), some (.v (.bool y)) => match constB a, constB b with
          | some true, _ => K st (.v (.bool (c || y)))
          | _, some false => K st (.v (.bool (c && x)))
          | _, _ => K st (.v (.bool (bif c then x else y)))
        | _, _ => False
  | .binOp op t x y g => binK cf.P tt st L op t x y g K
  | .unOp op _ x => match getV st L x with
    | some (.v a) => evK st L K (unV op a)
    | _ => False
  | .nilCheck x => match getV st L x with
    | some s => (match addrOk st L s with | true => K st s | false => arrNil st L s K)
    | none => False
  | .fieldAddr t x f => match (ttGet tt t).d with
    | .st fs => match fldGet fs f with
      | some (off, ft) => match (ttGet tt ft).size with
        | 0 => False
        | _ + 1 => match getV st L x with
          | some s => (match addrOk st L s with | true => K st (addOff off s) | false => False)
          | none => False
      | none => False
    | _ => False
  | .indexAddr t x i => match (ttGet tt t).d with
    | .sl e => match getV st L x, getV st L i with
      | some (.sl id), some (.v (.int _ n)) => match lenOf (chGet st.ch id), condC (chGet st.ch id) L, szOf (chGet st.ch id) with
        | some len, true, some sz => match Nat.beq sz (ttGet tt e).size, Nat.blt 0 sz with
          | true, true => impB st.bs L (0 ≤ n ∧ n < len) ∧ K st (.el id sz n.toNat 0)
          | _, _ => False
        | _, _, _ => False
      | _, _ => False
    | .arr n e => (match getV st L x, getV st L i, (ttGet tt e).size with
      | some s, some (.v (.int _ j)), sz + 1 => arrAt st L s n (sz + 1) j K
      | _, _, _ => False)
    | _ => False
  | .slice t x lo hi mx => (match plainSl (getV st L x) with
    | true => pureK cf.P st L (.slice t x lo hi mx) K
    | false => (match mx with | none => sliceK tt st L t x lo hi K | some _ => False))
  | .makeInterface t x => (match knownD (ttGet tt t).d, getV st L x with
    | true, some s => (match plainV s with | some v => K st (.v (.iface t v)) | none => False)
    | _, _ => False)
  | .load t x => match getV st L x with
    | some (.v u) => loadK tt st L t (.v u) K ∨ pureK cf.P st L (.load t x) K
    | some s => loadK tt st L t s K
    | none => False
  | .call ⟨callee, args, ts⟩ => match callee with
    | .builtin b => qbuiltin tt st L b args.toList ts.toList K
    | .value (.func f) => (match hasN cf.fns f, getVs st L args.toList with
      | true, some l => ∃ r : Value, impB st.bs L (QCall cf.P st f l r) ∧ K st (.v r)
      | false, _ => pureSK cf.P st L (.call ⟨.value (.func f), args, ts⟩) K
      | _, _ => False)
    | .value (.tmp t) => (match getV st L (.tmp t), getVs st L args.toList with
      | some (.fn f caps), some l => (match hasN cf.fns f with
        | true => ∃ r : Value, impB st.bs L (QCall cf.P st f (l ++ caps) r) ∧ K st (.v r)
        | false => False)
      | some (.mv f first caps), some l => (match hasN cf.fns f with
        | true => ∃ r : Value, impB st.bs L (QCall cf.P st f (first ++ (l ++ caps)) r) ∧ K st (.v r)
        | false => False)
      | some (.v (.func (.func f) first caps)), some l => (match hasN cf.fns f with
        | true => ∃ r : Value, impB st.bs L (QCall cf.P st f (first.toList.map .v ++ (l ++ caps.toList.map .v)) r) ∧ K st (.v r)
        | false => False)
      | _, _ => False)
    | _ => False
  | .makeFunc fn first caps => makeFuncK cf.P st L fn first caps K
  | .extract x i => match getV st L x with
    | some (.tup l) => (match dropL l i with | s :: _ => K st s | [] => False)
    | some (.v (.tuple vs)) => (match dropL vs.toList i with | v :: _ => K st (.v v) | [] => False)
    | _ => False
  | .field t x f => match (ttGet tt t).d with
    | .st fs => match fldGet fs f with
      | some (off, ft) => match knownD (ttGet tt ft).d, getV st L x with
        | true, some (.agg l) => (match isAggD (ttGet tt ft).d with
          | false => match dropL l off with | s :: _ => K st s | [] => False
          | true => match Nat.ble (off + (ttGet tt ft).size) l.length with | true => K st (.agg (takeL (dropL l off) (ttGet tt ft).size)) | false => False)
        | _, _ => False
      | none => False
    | _ => False
  | .build t parts => match (ttGet tt t).d with
    | .st fs => match fillS (fun i => match fldGet fs i with | some (off, ft) => (match knownD (ttGet tt ft).d with | true => some (off, (ttGet tt ft).size) | false => none) | none => none) st L ((ttGet tt t).zero.map .v) parts.toList with
      | some cells => K st (.agg cells)
      | none => False
    | .arr _ e => match knownD (ttGet tt e).d, fillS (fun i => some (i * (ttGet tt e).size, (ttGet tt e).size)) st L ((ttGet tt t).zero.map .v) parts.toList with
      | true, some cells => K st (.agg cells)
      | _, _ => False
    | _ => False
  | .convert t dt x => match getV st L x with
   | some (.bx _ _) => pureSK cf.P st L (.convert t dt x) K
   | _ => match knownD (ttGet tt t).d, (ttGet tt dt).d, getV st L x with
    | true, .int k, some (.v (.int _ n)) => K st (.v (.int k (k.wrap n)))
    | true, .str, some (.v (.string s)) => K st (.v (.string s))
    | _, _, _ => pureK cf.P st L (.convert t dt x) K
  | .defer _ => False
  | op => pureK cf.P st L op K

def keepE : List Ent → List Ent
  | [] => []
  | ⟨s, L, v⟩ :: r => match L with | [] => ⟨s, [], v⟩ :: keepE r | _ => ⟨s, [], .junk⟩ :: keepE r
def keepC : List Chunk → List Chunk
  | [] => []
  | c :: r => (match c with | .cnd .. => .dead | .rp L cs => (match L with | [] => .rp [] cs | _ => .dead) | c => c) :: keepC r
def noCallB : Op → Bool
  | .call ⟨.builtin _, _, _⟩ => true
  | .call _ => false
  | _ => true

def keepEK : List Ent → (List Ent → Prop) → Prop
  | [], K => K []
  | ⟨s, L, v⟩ :: r, K => match L with | [] => keepEK r (fun l => K (⟨s, [], v⟩ :: l)) | _ => keepEK r (fun l => K (⟨s, [], .junk⟩ :: l))
theorem keepEK_eq : ∀ (l : List Ent) (K : List Ent → Prop), keepEK l K = K (keepE l)
  | [], _ => rfl
  | ⟨s, L, v⟩ :: r, K => by cases L <;> simp only [keepEK, keepE, keepEK_eq r]
def keepCK : List Chunk → (List Chunk → Prop) → Prop
  | [], K => K []
  | c :: r, K => match c with
    | .cnd .. => keepCK r (fun l => K (.dead :: l))
    | .rp L cs => (match L with | [] => keepCK r (fun l => K (.rp [] cs :: l)) | _ => keepCK r (fun l => K (.dead :: l)))
    | c => keepCK r (fun l => K (c :: l))
theorem keepCK_eq : ∀ (l : List Chunk) (K : List Chunk → Prop), keepCK l K = K (keepC l)
  | [], _ => rfl
  | c :: r, K => by
    cases c with
    | rp L cs => cases L <;> simp only [keepCK, keepC, keepCK_eq r]
    | _ => simp only [keepCK, keepC, keepCK_eq r]

def condOut (st : St) (K : St → Prop) : Prop :=
  match st with
  | ⟨n, env, ch, bs, ids⟩ => match bs with
    | [] => K ⟨n, env, ch, [], ids⟩
    | _ => keepEK env (fun env' => keepCK ch (fun ch' => K ⟨n, env', ch', [], ids⟩))

def usedB : List BEnt → Nat → Bool
  | [], _ => false
  | e :: r, s => match Nat.beq e.slot s with | true => true | false => usedB r s

def putK (st : St) (i : Nat) (o : Oper) (L : List (Nat × Bool)) (s : SV) (K : St → Prop) : Prop :=
  match o.dst with
  | none => K st
  | some d => match st with
    | ⟨n, env, ch, bs, ids⟩ => match Nat.blt d n, usedB bs d with
      | true, false => match o.op, s with
        | _, .junk => False
        | .move _, .v (.bool b) => match lookB bs i with
          | some _ => False
          | none => K ⟨n, ⟨d, L, .v (.bool b)⟩ :: env, ch, ⟨i, d, L, b⟩ :: bs, ids⟩
        | _, s => K ⟨n, ⟨d, L, s⟩ :: env, ch, bs, ids⟩
      | _, _ => False

def qops (cf : Cfg) (tt : TT) : List Oper → List Nat → St → (St → Prop) → Prop
  | [], _, st, K => condOut st K
  | o :: r, i :: is, st, K => match condOf st.bs o.guard with
    | none => False
    | some L => qop cf tt st L o.op (fun st' s => putK st' i o L s (fun st'' => qops cf tt r is st'' K))
  | _ :: _, [], _, _ => False

def nats29 : List Nat := 290 :: 291 :: 292 :: 293 :: 294 :: 295 :: 296 :: 297 :: 298 :: 299 :: []
def nats28 : List Nat := 280 :: 281 :: 282 :: 283 :: 284 :: 285 :: 286 :: 287 :: 288 :: 289 :: nats29
def nats27 : List Nat := 270 :: 271 :: 272 :: 273 :: 274 :: 275 :: 276 :: 277 :: 278 :: 279 :: nats28
def nats26 : List Nat := 260 :: 261 :: 262 :: 263 :: 264 :: 265 :: 266 :: 267 :: 268 :: 269 :: nats27
def nats25 : List Nat := 250 :: 251 :: 252 :: 253 :: 254 :: 255 :: 256 :: 257 :: 258 :: 259 :: nats26
def nats24 : List Nat := 240 :: 241 :: 242 :: 243 :: 244 :: 245 :: 246 :: 247 :: 248 :: 249 :: nats25
def nats23 : List Nat := 230 :: 231 :: 232 :: 233 :: 234 :: 235 :: 236 :: 237 :: 238 :: 239 :: nats24
def nats22 : List Nat := 220 :: 221 :: 222 :: 223 :: 224 :: 225 :: 226 :: 227 :: 228 :: 229 :: nats23
def nats21 : List Nat := 210 :: 211 :: 212 :: 213 :: 214 :: 215 :: 216 :: 217 :: 218 :: 219 :: nats22
def nats20 : List Nat := 200 :: 201 :: 202 :: 203 :: 204 :: 205 :: 206 :: 207 :: 208 :: 209 :: nats21
def nats19 : List Nat := 190 :: 191 :: 192 :: 193 :: 194 :: 195 :: 196 :: 197 :: 198 :: 199 :: nats20
def nats18 : List Nat := 180 :: 181 :: 182 :: 183 :: 184 :: 185 :: 186 :: 187 :: 188 :: 189 :: nats19
def nats17 : List Nat := 170 :: 171 :: 172 :: 173 :: 174 :: 175 :: 176 :: 177 :: 178 :: 179 :: nats18
def nats16 : List Nat := 160 :: 161 :: 162 :: 163 :: 164 :: 165 :: 166 :: 167 :: 168 :: 169 :: nats17
def nats15 : List Nat := 150 :: 151 :: 152 :: 153 :: 154 :: 155 :: 156 :: 157 :: 158 :: 159 :: nats16
def nats14 : List Nat := 140 :: 141 :: 142 :: 143 :: 144 :: 145 :: 146 :: 147 :: 148 :: 149 :: nats15
def nats13 : List Nat := 130 :: 131 :: 132 :: 133 :: 134 :: 135 :: 136 :: 137 :: 138 :: 139 :: nats14
def nats12 : List Nat := 120 :: 121 :: 122 :: 123 :: 124 :: 125 :: 126 :: 127 :: 128 :: 129 :: nats13
def nats11 : List Nat := 110 :: 111 :: 112 :: 113 :: 114 :: 115 :: 116 :: 117 :: 118 :: 119 :: nats12
def nats10 : List Nat := 100 :: 101 :: 102 :: 103 :: 104 :: 105 :: 106 :: 107 :: 108 :: 109 :: nats11
def nats9 : List Nat := 90 :: 91 :: 92 :: 93 :: 94 :: 95 :: 96 :: 97 :: 98 :: 99 :: nats10
def nats8 : List Nat := 80 :: 81 :: 82 :: 83 :: 84 :: 85 :: 86 :: 87 :: 88 :: 89 :: nats9
def nats7 : List Nat := 70 :: 71 :: 72 :: 73 :: 74 :: 75 :: 76 :: 77 :: 78 :: 79 :: nats8
def nats6 : List Nat := 60 :: 61 :: 62 :: 63 :: 64 :: 65 :: 66 :: 67 :: 68 :: 69 :: nats7
def nats5 : List Nat := 50 :: 51 :: 52 :: 53 :: 54 :: 55 :: 56 :: 57 :: 58 :: 59 :: nats6
def nats4 : List Nat := 40 :: 41 :: 42 :: 43 :: 44 :: 45 :: 46 :: 47 :: 48 :: 49 :: nats5
def nats3 : List Nat := 30 :: 31 :: 32 :: 33 :: 34 :: 35 :: 36 :: 37 :: 38 :: 39 :: nats4
def nats2 : List Nat := 20 :: 21 :: 22 :: 23 :: 24 :: 25 :: 26 :: 27 :: 28 :: 29 :: nats3
def nats1 : List Nat := 10 :: 11 :: 12 :: 13 :: 14 :: 15 :: 16 :: 17 :: 18 :: 19 :: nats2
def nats : List Nat := 0 :: 1 :: 2 :: 3 :: 4 :: 5 :: 6 :: 7 :: 8 :: 9 :: nats1
end Go.Eng

/-! part Snd1 -/
namespace Go.Eng
open Go.RowKit

/-! ### types -/
def descOk (P : Program) : TyD → Option TypeDesc → Prop
  | .int k, u => u = some (.int k)
  | .bool, u => u = some .bool
  | .str, u => u = some .string
  | .sl e, u => u = some (.slice e)
  | .st fs, u => ∃ fields places, u = some (.struct fields) ∧ fields.toList.mapM (fun f => (P.info? f.type).map fun i => (f.offset, i.size)) = some places ∧ fields.toList.map (fun f => (f.offset, f.type)) = fs
  | .arr n e, u => u = some (.array n e)
  | .ptr, u => ∃ e, u = some (.pointer e)
  | .fn, u => ∃ a b c, u = some (.func a b c)
  | .map, u => ∃ k e, u = some (.map k e)
  | .other, _ => True

theorem fldGet_eq : ∀ (fs : List (Nat × Nat)) (i : Nat), fldGet fs i = fs[i]?
  | [], i => by cases i <;> rfl
  | r :: rs, 0 => rfl
  | r :: rs, i + 1 => by simp [fldGet, fldGet_eq rs i]
theorem mapM_get {α β : Type} (f : α → Option β) : ∀ (l : List α) (r : List β), l.mapM f = some r → ∀ (i : Nat) x, l[i]? = some x → ∃ y, f x = some y ∧ r[i]? = some y
  | [], r, h, i, x, hx => by simp at hx
  | a :: l, r, h, i, x, hx => by
    simp only [List.mapM_cons, Option.bind_eq_bind, Option.pure_def] at h
    cases ha : f a with
    | none => simp [ha] at h
    | some y =>
      cases hr : l.mapM f with
      | none => simp [ha, hr] at h
      | some ys =>
        simp [ha, hr] at h
        subst h
        cases i with
        | zero => simp at hx; subst hx; exact ⟨y, ha, rfl⟩
        | succ i => simpa using mapM_get f l ys hr i x (by simpa using hx)
theorem st_fields {P : Program} {fs : List (Nat × Nat)} {u : Option TypeDesc} (h : descOk P (.st fs) u) :
    ∃ fields, u = some (.struct fields) ∧ ∀ i off ft, fldGet fs i = some (off, ft) → ∃ f, fields[i]? = some f ∧ f.offset = off ∧ f.type = ft := by
  obtain ⟨fields, places, hu, _, hf⟩ := h
  refine ⟨fields, hu, fun i off ft hg => ?_⟩
  rw [fldGet_eq, ← hf, List.getElem?_map] at hg
  cases hx : fields.toList[i]? with
  | none => simp [hx] at hg
  | some f => simp [hx] at hg; exact ⟨f, by simpa using hx, hg.1, hg.2⟩

def tyOk (P : Program) (t : Nat) (r : TyR) : Prop :=
  match r.d with
  | .other => r.size = 0
  | d => (∃ i z, P.info? t = some i ∧ i.size = r.size ∧ i.bytes = r.bytes ∧ i.zero = some z ∧ z.cells.toList = r.zero) ∧ descOk P d (P.underlying t)

def TTok (P : Program) (tt : TT) : Prop := ∀ t, tyOk P t (ttGet tt t)

theorem tyOk_info {P : Program} {t : Nat} {r : TyR} (h : tyOk P t r) (hs : r.size ≠ 0) :
    ∃ i z, P.info? t = some i ∧ i.size = r.size ∧ i.bytes = r.bytes ∧ i.zero = some z ∧ z.cells.toList = r.zero := by
  unfold tyOk at h
  cases hd : r.d <;> simp only [hd] at h <;> first | exact absurd h hs | exact h.1

theorem tyOk_desc {P : Program} {t : Nat} {r : TyR} (h : tyOk P t r) (hd : r.d ≠ .other) : descOk P r.d (P.underlying t) := by
  unfold tyOk at h
  cases hd' : r.d <;> simp only [hd'] at h <;> first | exact absurd hd' hd | exact h.2

theorem tyOk_info' {P : Program} {t : Nat} {r : TyR} (h : tyOk P t r) (hd : r.d ≠ .other) :
    ∃ i z, P.info? t = some i ∧ i.size = r.size ∧ i.bytes = r.bytes ∧ i.zero = some z ∧ z.cells.toList = r.zero := by
  unfold tyOk at h
  cases hd' : r.d <;> simp only [hd'] at h <;> first | exact absurd hd' hd | exact h.1

/-! ### well-formed symbolic values -/
mutual
theorem den_congr {ch : List Chunk} {ρ ρ' : Nat → Value} (h : ∀ id, id < ch.length → ρ' id = ρ id) : ∀ s, svOk ch s → den ρ' s = den ρ s
  | .v _, _ => rfl
  | .bx id off, hs => by simp only [svOk] at hs; simp only [den, h id hs]
  | .el id sz i off, hs => by simp only [svOk] at hs; simp only [den, h id hs.1]
  | .sl id, hs => by simp only [svOk] at hs; simp only [den, h id hs]
  | .agg l, hs => by simp only [svOk] at hs; simp only [den, denL_congr h l hs]
  | .tup l, hs => by simp only [svOk] at hs; simp only [den, denL_congr h l hs]
  | .fn f l, hs => by simp only [svOk] at hs; simp only [den, denL_congr h l hs]
  | .mv f l1 l2, hs => by simp only [svOk] at hs; simp only [den, denL_congr h l1 hs.1, denL_congr h l2 hs.2]
  | .junk, _ => rfl
theorem denL_congr {ch : List Chunk} {ρ ρ' : Nat → Value} (h : ∀ id, id < ch.length → ρ' id = ρ id) : ∀ l, svOkL ch l → denL ρ' l = denL ρ l
  | [], _ => rfl
  | s :: r, hs => by simp only [svOkL] at hs; simp only [denL, den_congr h s hs.1, denL_congr h r hs.2]
end

/-- chunks only added -/
def ChExt (ch ch' : List Chunk) : Prop := ch.length ≤ ch'.length ∧ ∀ id, id < ch.length → chGet ch' id = chGet ch id
theorem ChExt.refl (ch : List Chunk) : ChExt ch ch := ⟨Nat.le_refl _, fun _ _ => rfl⟩
theorem ChExt.trans {a b c : List Chunk} (h : ChExt a b) (k : ChExt b c) : ChExt a c :=
  ⟨Nat.le_trans h.1 k.1, fun id hi => (k.2 id (Nat.lt_of_lt_of_le hi h.1)).trans (h.2 id hi)⟩

mutual
theorem svOk_ext {ch ch' : List Chunk} (h : ChExt ch ch') : ∀ s, svOk ch s → svOk ch' s
  | .v _, _ => by simp [svOk]
  | .bx id off, hs => by simp only [svOk] at hs ⊢; exact Nat.lt_of_lt_of_le hs h.1
  | .el id sz i off, hs => by simp only [svOk] at hs ⊢; rw [h.2 id hs.1]; exact ⟨Nat.lt_of_lt_of_le hs.1 h.1, hs.2⟩
  | .sl id, hs => by simp only [svOk] at hs ⊢; exact Nat.lt_of_lt_of_le hs h.1
  | .agg l, hs => by simp only [svOk] at hs ⊢; exact svOkL_ext h l hs
  | .tup l, hs => by simp only [svOk] at hs ⊢; exact svOkL_ext h l hs
  | .fn f l, hs => by simp only [svOk] at hs ⊢; exact svOkL_ext h l hs
  | .mv f l1 l2, hs => by simp only [svOk] at hs ⊢; exact ⟨svOkL_ext h l1 hs.1, svOkL_ext h l2 hs.2⟩
  | .junk, _ => by simp [svOk]
theorem svOkL_ext {ch ch' : List Chunk} (h : ChExt ch ch') : ∀ l, svOkL ch l → svOkL ch' l
  | [], _ => by simp [svOkL]
  | s :: r, hs => by simp only [svOkL] at hs ⊢; exact ⟨svOk_ext h s hs.1, svOkL_ext h r hs.2⟩
end

theorem snocL_length {α : Type u} (l : List α) (x : α) : (snocL l x).length = l.length + 1 := by
  induction l with
  | nil => rfl
  | cons a r ih => simp [snocL, ih]
theorem chGet_snoc_old (ch : List Chunk) (c : Chunk) : ∀ id, id < ch.length → chGet (snocL ch c) id = chGet ch id := by
  induction ch with
  | nil => intro id h; simp at h
  | cons a r ih =>
    intro id h
    cases id with
    | zero => rfl
    | succ n => simp only [snocL, chGet]; exact ih n (by simpa using h)
theorem chGet_snoc_new (ch : List Chunk) (c : Chunk) : chGet (snocL ch c) ch.length = c := by
  induction ch with
  | nil => rfl
  | cons a r ih => simpa [snocL, chGet] using ih
theorem chGet_out (ch : List Chunk) : ∀ id, ch.length ≤ id → chGet ch id = .dead := by
  induction ch with
  | nil => intro id _; cases id <;> rfl
  | cons a r ih =>
    intro id h
    cases id with
    | zero => simp at h
    | succ n => simp only [chGet]; exact ih n (by simpa using h)
theorem ChExt.snoc (ch : List Chunk) (c : Chunk) : ChExt ch (snocL ch c) := ⟨by rw [snocL_length]; omega, chGet_snoc_old ch c⟩

theorem nth_eq {α : Type} [Inhabited α] (xs : List α) (i : Nat) (h : i < xs.length) : nth xs i = xs[i] := by
  simp [nth, h]
theorem nth_append_left {α : Type} [Inhabited α] (xs ys : List α) (i : Nat) (h : i < xs.length) : nth (xs ++ ys) i = nth xs i := by
  simp [nth, List.getElem?_append_left h]
theorem nth_append_right {α : Type} [Inhabited α] (xs ys : List α) (i : Nat) (h : xs.length ≤ i) : nth (xs ++ ys) i = nth ys (i - xs.length) := by
  simp [nth, List.getElem?_append_right h]

theorem flatMap_get {α : Type} {β : Type u} [Inhabited α] (enc : α → List β) (sz : Nat) : ∀ (ys : List α), (∀ y ∈ ys, (enc y).length = sz) → ∀ i j, i < ys.length → j < sz → (ys.flatMap enc)[i * sz + j]? = (enc (nth ys i))[j]?
  | [], _, i, j, hi, _ => by simp at hi
  | y :: ys, h, 0, j, _, hj => by
    have hy := h y (by simp)
    simp only [List.flatMap_cons, Nat.zero_mul, Nat.zero_add]
    rw [List.getElem?_append_left (by omega)]
    rfl
  | y :: ys, h, i + 1, j, hi, hj => by
    have hy := h y (by simp)
    simp only [List.flatMap_cons]
    rw [List.getElem?_append_right (by rw [hy, Nat.succ_mul]; omega), hy, show (i + 1) * sz + j - sz = i * sz + j from by rw [Nat.succ_mul]; omega]
    rw [flatMap_get enc sz ys (fun y hy => h y (by simp [hy])) i j (by simpa using hi) hj]
    rfl
theorem flatMap_len {α : Type} {β : Type u} (enc : α → List β) (sz : Nat) : ∀ (ys : List α), (∀ y ∈ ys, (enc y).length = sz) → (ys.flatMap enc).length = ys.length * sz
  | [], _ => by simp
  | y :: ys, h => by
    simp only [List.flatMap_cons, List.length_append, h y (by simp), flatMap_len enc sz ys (fun y hy => h y (by simp [hy])), List.length_cons, Nat.succ_mul]
    omega

theorem dropL_eq {α : Type u} : ∀ (l : List α) (n : Nat), dropL l n = l.drop n
  | l, 0 => by simp [dropL]
  | [], n + 1 => by simp [dropL]
  | a :: r, n + 1 => by simp [dropL, dropL_eq r n]
theorem takeL_eq {α : Type u} : ∀ (l : List α) (n : Nat), takeL l n = l.take n
  | l, 0 => by simp [takeL]
  | [], n + 1 => by simp [takeL]
  | a :: r, n + 1 => by simp [takeL, takeL_eq r n]

/-! ### memory -/
theorem cell_block {w w' : World} {a : Addr} (h : w'.heap[a.block]? = w.heap[a.block]?) : w'.cell? a = w.cell? a := World.cell?_of_block h

theorem DRep.mono {S S' : Nat → Prop} {w w' : World} (hS : ∀ b, S b → S' b) (h : ∀ b, S b → w'.heap[b]? = w.heap[b]?) {d : DV} {v : Value} (hr : DRep S w d v) : DRep S' w' d v := by
  induction hr with
  | v x h => exact .v x h
  | @sl α inh sz enc xs ad c b o cell hc hne hcell _ ih =>
    refine .sl ad c b o cell hc (fun hx => ⟨(hne hx).1, hS _ (hne hx).2⟩) (fun i j d hi hd => ?_) (fun i j d hi hd => ih i j d hi hd)
    have hx : xs ≠ [] := by intro e; subst e; simp at hi
    rw [← hcell i j d hi hd]
    exact cell_block (h b (hne hx).2)
  | @ptr cells b o cell hb hcell _ ih =>
    refine .ptr b o cell (hS _ hb) (fun j d hd => ?_) (fun j d hd => ih j d hd)
    rw [← hcell j d hd]
    exact cell_block (h b hb)

theorem ownBlk_lt {bs : List BEnt} {S : Nat → Prop} {w : World} {ρ : Nat → Value} {c : Chunk} {v : Value} {b : Nat} (h : ChunkOk bs S w ρ c v) (hb : ownBlk c v = some b) : b < w.heap.size := by
  cases c with
  | bx t cells =>
    obtain ⟨b', rfl, hg⟩ := h
    simp only [ownBlk, Option.some.injEq] at hb
    subst hb
    exact (Array.getElem?_eq_some_iff.1 hg).1
  | own t α inh sz enc xs =>
    obtain ⟨vals, ho, _⟩ := h
    have hb' : v.ownBlock = some b := by simpa [ownBlk] using hb
    exact (World.ownsRow.lt ho b hb').2
  | raw t n sz cells =>
    obtain ⟨b', rfl, hg⟩ := h
    simp only [ownBlk, Value.ownBlock, Option.some.injEq] at hb
    subst hb
    exact (Array.getElem?_eq_some_iff.1 hg).1
  | rp => simp [ownBlk] at hb
  | rd => simp [ownBlk] at hb
  | cnd => simp [ownBlk] at hb
  | yk => simp [ownBlk] at hb
  | dead => simp [ownBlk] at hb
  | glb => simp [ownBlk] at hb
  | ob ok =>
    obtain ⟨r, o, rfl, hg, _⟩ := h
    simp only [ownBlk, Option.some.injEq] at hb
    subst hb
    exact (Array.getElem?_eq_some_iff.1 hg).1

theorem ownBlk_ob (ok ok' : Obj → Prop) (v : Value) : ownBlk (.ob ok) v = ownBlk (.ob ok') v := by
  cases v <;> first | rfl | (rename_i r; cases r <;> rfl)

theorem ownsRow_block {w w' : World} {base e size n : Nat} {v : Value} {xs : List Value} (h : w.ownsRow base e size v n xs) (hb : ∀ b, v.ownBlock = some b → w'.heap[b]? = w.heap[b]?) : w'.ownsRow base e size v n xs := by
  obtain ⟨h1, h2⟩ := h
  refine ⟨h1, ?_⟩
  rcases h2 with h2 | ⟨g, cap, cur, rfl, hg, hh, r⟩
  · exact .inl h2
  · exact .inr ⟨g, cap, cur, rfl, hg, by rw [hb g rfl]; exact hh, r⟩

/-- a chunk's facts hold on where its blocks and the stable ones are as they were -/
theorem ChunkOk.mono {bs : List BEnt} {S S' : Nat → Prop} {w w' : World} {ρ : Nat → Value} {c : Chunk} {v : Value} (hS : ∀ b, S b → S' b) (h : ∀ b, S b → w'.heap[b]? = w.heap[b]?)
    (hb : ∀ b, ownBlk c v = some b → w'.heap[b]? = w.heap[b]?) (hc : ChunkOk bs S w ρ c v) : ChunkOk bs S' w' ρ c v := by
  cases c with
  | bx t cells => obtain ⟨b, rfl, hg⟩ := hc; exact ⟨b, rfl, by rw [hb b rfl]; exact hg⟩
  | rd α inh sz enc xs => exact DRep.mono hS h hc
  | cnd L α inh sz enc xs => exact fun hl => DRep.mono hS h (hc hl)
  | own t α inh sz enc xs =>
    obtain ⟨vals, ho, hv⟩ := hc
    refine ⟨vals, ownsRow_block ho (fun b e => hb b (by simpa [ownBlk] using e)), fun i j d hi hd => ?_⟩
    obtain ⟨x, h1, h2, h3⟩ := hv i j d hi hd
    exact ⟨x, h1, h2, DRep.mono hS h h3⟩
  | raw t n sz cells => obtain ⟨b, rfl, hg⟩ := hc; exact ⟨b, rfl, by rw [hb b rfl]; exact hg⟩
  | rp L cells => exact fun hl => DRep.mono hS h (hc hl)
  | glb g cells =>
    obtain ⟨h1, cs, e, fz, h2, h3, h4⟩ := hc
    refine ⟨hS g h1, cs, e, fz, by rw [h g h1]; exact h2, h3, fun j d hd => ?_⟩
    obtain ⟨x, h5, h6⟩ := h4 j d hd
    exact ⟨x, h5, DRep.mono hS h h6⟩
  | ob ok => obtain ⟨r, o, rfl, hg, ho⟩ := hc; exact ⟨r, o, rfl, by rw [hb r rfl]; exact hg, ho⟩
  | yk => trivial
  | dead => trivial

theorem MemOk.below {st : St} {ρ : Nat → Value} {S : Nat → Prop} {w w' : World} (h : MemOk st ρ S w) (hb : Below w.heap.size w w') : MemOk st ρ S w' where
  ok id hid := ChunkOk.mono (fun _ h => h) (fun b hS => hb.block b (h.lt b hS)) (fun b e => hb.block b (ownBlk_lt (h.ok id hid) e)) (h.ok id hid)
  cells := h.cells
  sep := h.sep
  out := h.out
  lt b hS := Nat.lt_of_lt_of_le (h.lt b hS) hb.size
  ccl := h.ccl

/-! ### the frame -/

open Classical in
structure EnvOk (ops : Array Oper) (st : St) (ρ : Nat → Value) (a : Act) : Prop where
  size : a.tmps.size = st.n
  ent : ∀ d e, lookE st.env d = some e → e.sv ≠ .junk → a.tmps[d]? = some (if holds st.bs e.cond then den ρ e.sv else undef)
  ok : ∀ d e, lookE st.env d = some e → holds st.bs e.cond → svOk st.ch e.sv
  cl : ∀ d e, lookE st.env d = some e → closed st.bs e.cond
  bent : ∀ e ∈ st.bs, lookB st.bs e.op = some e ∧ (∃ o, ops[e.op]? = some o ∧ o.dst = some e.slot) ∧ a.tmps[e.slot]? = some (if holds st.bs e.cond then .bool e.b else undef)
  bcl : ∀ e ∈ st.bs, closed st.bs e.cond

theorem lookB_mem {bs : List BEnt} {j : Nat} {e : BEnt} (h : lookB bs j = some e) : e ∈ bs ∧ e.op = j := by
  induction bs with
  | nil => simp [lookB] at h
  | cons x r ih =>
    simp only [lookB] at h
    cases hb : Nat.beq x.op j with
    | true => simp only [hb, Option.some.injEq] at h; subst h; exact ⟨by simp, Nat.eq_of_beq_eq_true hb⟩
    | false => simp only [hb] at h; exact ⟨List.mem_cons_of_mem _ (ih h).1, (ih h).2⟩
theorem findB_mem {bs : List BEnt} {s : Nat} {e : BEnt} (h : findB bs s = some e) : e ∈ bs ∧ e.slot = s := by
  induction bs with
  | nil => simp [findB] at h
  | cons x r ih =>
    simp only [findB] at h
    cases hb : Nat.beq x.slot s with
    | true => simp only [hb, Option.some.injEq] at h; subst h; exact ⟨by simp, Nat.eq_of_beq_eq_true hb⟩
    | false => simp only [hb] at h; exact ⟨List.mem_cons_of_mem _ (ih h).1, (ih h).2⟩
theorem usedB_false {bs : List BEnt} {s : Nat} (h : usedB bs s = false) : ∀ e ∈ bs, e.slot ≠ s := by
  induction bs with
  | nil => intro e he; simp at he
  | cons x r ih =>
    simp only [usedB] at h
    cases hb : Nat.beq x.slot s with
    | true => simp [hb] at h
    | false =>
      simp only [hb] at h
      intro e he
      rcases List.mem_cons.1 he with rfl | he
      · exact Nat.ne_of_beq_eq_false hb
      · exact ih h e he

theorem subL_sound {bs : List BEnt} {a b : List (Nat × Bool)} (h : subL a b = true) (hb : holds bs b) : holds bs a := by
  have mem : ∀ (b : List (Nat × Bool)), holds bs b → ∀ p ∈ b, (match lookB bs p.1 with | some e => e.b = p.2 | none => False) := by
    intro b
    induction b with
    | nil => intro _ p hp; simp at hp
    | cons x r ih =>
      intro hh p hp
      obtain ⟨j, w⟩ := x
      simp only [holds] at hh
      rcases List.mem_cons.1 hp with rfl | hp
      · exact hh.1
      · exact ih hh.2 p hp
  induction a with
  | nil => trivial
  | cons x r ih =>
    obtain ⟨j, w⟩ := x
    simp only [subL, List.all_cons, Bool.and_eq_true] at h
    obtain ⟨h1, h2⟩ := h
    simp only [holds]
    refine ⟨?_, ih h2⟩
    rw [List.any_eq_true] at h1
    obtain ⟨q, hq, he⟩ := h1
    simp only [Bool.and_eq_true, beq_iff_eq] at he
    have hj : j = q.1 := Nat.eq_of_beq_eq_true he.1
    have := mem b hb q hq
    rw [hj, he.2]
    exact this

theorem getV_sound {ops : Array Oper} {st : St} {ρ : Nat → Value} {a : Act} {L : List (Nat × Bool)} {x : Operand} {s : SV} (he : EnvOk ops st ρ a) (hL : holds st.bs L) (h : getV st L x = some s) :
    a.eval x = den ρ s ∧ svOk st.ch s := by
  cases x with
  | tmp t =>
    simp only [getV] at h
    cases hl : lookE st.env t with
    | none => simp [hl] at h
    | some e =>
      simp only [hl] at h
      cases hs : subL e.cond L with
      | false => simp [hs] at h
      | true =>
        simp only [hs] at h
        have hj : e.sv ≠ .junk ∧ e.sv = s := by
          cases hsv : e.sv <;> simp [hsv] at h <;> exact ⟨by simp, h⟩
        obtain ⟨hj, rfl⟩ := hj
        have hc := subL_sound hs hL
        have := he.ent t e hl hj
        rw [if_pos hc] at this
        refine ⟨?_, he.ok t e hl hc⟩
        simp only [Act.eval, Array.getD_eq_getD_getElem?, this, Option.getD_some]
  | const v => simp only [getV, Option.some.injEq] at h; subst h; exact ⟨rfl, by simp [svOk]⟩
  | func f => simp only [getV, Option.some.injEq] at h; subst h; exact ⟨rfl, by simp [svOk]⟩
  | global g => simp only [getV, Option.some.injEq] at h; subst h; exact ⟨rfl, by simp [svOk]⟩

theorem impB_sound {bs : List BEnt} {L : List (Nat × Bool)} {p : Prop} (h : impB bs L p) (hL : holds bs L) : p := by
  induction L with
  | nil => exact h
  | cons x r ih =>
    obtain ⟨j, w⟩ := x
    simp only [holds] at hL
    simp only [impB] at h
    cases hl : lookB bs j with
    | none => simp [hl] at hL
    | some e => simp only [hl] at h hL; exact ih (h hL.1) hL.2
end Go.Eng

/-! part Snd2 -/
namespace Go.Eng
open Go.RowKit

def CC (w0 : World) : World → Prop := fun w => Below w0.heap.size w0 w

structure QRes (P : Program) (st : St) (L : List (Nat × Bool)) (o : Oper) (ρ : Nat → Value) (S : Nat → Prop) (w0 : World) (a : Act) (st' : St) (s : SV) (ρ' : Nat → Value) : Prop where
  n : st'.n = st.n
  env : st'.env = st.env
  bs : st'.bs = st.bs
  chx : ChExt st.ch st'.ch
  old : ∀ id, id < st.ch.length → ρ' id = ρ id
  mem : MemOk st' ρ' S w0
  own : ∀ i, st.ch.length ≤ i → i < st'.ch.length → (∀ b, ownBlk (chGet st'.ch i) (ρ' i) ≠ some b) ∧ noY (chGet st'.ch i) = true
  runw : holds st.bs L → svOk st'.ch s ∧ ∀ w, CC w0 w → o.quietAt P a (CC w) w (den ρ' s)
  pl : noCallB o.op = true → holds st.bs L → ∀ w, CC w0 w → (execOp a.eval o).run P w = .ok (.value (den ρ' s)) w

theorem QRes.yks {P : Program} {st : St} {L : List (Nat × Bool)} {o : Oper} {ρ : Nat → Value} {S : Nat → Prop} {w0 : World} {a : Act} {st' : St} {s : SV} {ρ' : Nat → Value} (h : QRes P st L o ρ S w0 a st' s ρ') :
    ∀ i l go n, chGet st'.ch i = .yk l go n → chGet st.ch i = .yk l go n := by
  intro i l go n e
  by_cases hlt : i < st.ch.length
  · rw [← h.chx.2 i hlt]; exact e
  · by_cases hl' : i < st'.ch.length
    · have := (h.own i (by omega) hl').2; rw [e] at this; cases this
    · rw [chGet_out _ _ (by omega)] at e; cases e
theorem CC.trans {w0 w w' : World} (h : CC w0 w) (h' : CC w w') : CC w0 w' := Below.trans h (h'.mono h.size)

theorem quietAt_mono {P : Program} {o : Oper} {a : Act} {C C' : World → Prop} {w : World} {v : Value} (hC : ∀ w', C w' → C' w') (h : o.quietAt P a C w v) : o.quietAt P a C' w v := by
  unfold Oper.quietAt at *
  generalize (execOp a.eval o).run P w = r at *
  cases r with
  | ok n w' =>
    cases n with
    | enter f args =>
      simp only [Oper.quietUpon] at h ⊢
      exact ⟨h.1, h.2.mono fun e w'' ⟨h1, h2⟩ => ⟨h1, hC _ h2⟩⟩
    | _ => exact h
  | halt x w' => exact h

theorem QRes.run {P : Program} {st : St} {L : List (Nat × Bool)} {o : Oper} {ρ : Nat → Value} {S : Nat → Prop} {w0 : World} {a : Act} {st' : St} {s : SV} {ρ' : Nat → Value} (h : QRes P st L o ρ S w0 a st' s ρ') :
    holds st.bs L → svOk st'.ch s ∧ ∀ w, CC w0 w → o.quietAt P a (CC w0) w (den ρ' s) :=
  fun hL => ⟨(h.runw hL).1, fun w hw => quietAt_mono (fun _ h' => CC.trans hw h') ((h.runw hL).2 w hw)⟩

def QOk (P : Program) (st : St) (L : List (Nat × Bool)) (o : Oper) (K : St → SV → Prop) (ρ : Nat → Value) (S : Nat → Prop) (w0 : World) (a : Act) : Prop :=
  ∃ st' s ρ', K st' s ∧ QRes P st L o ρ S w0 a st' s ρ'

theorem quiet_of_run {P : Program} {o : Oper} {a : Act} {C : World → Prop} {w : World} {v : Value} (h : (execOp a.eval o).run P w = .ok (.value v) w) : o.quietAt P a C w v := by
  unfold Oper.quietAt
  rw [h]
  exact ⟨rfl, rfl⟩

section
variable {P : Program} {tt : TT} {ops : Array Oper} {st : St} {L : List (Nat × Bool)} {o : Oper} {K : St → SV → Prop} {ρ : Nat → Value} {S : Nat → Prop} {w0 : World} {a : Act}

/-- an operation that makes no new chunk -/
theorem QOk.simple {s : SV} (hm : MemOk st ρ S w0) (hK : K st s)
    (h : holds st.bs L → svOk st.ch s ∧ ∀ w, CC w0 w → (execOp a.eval o).run P w = .ok (.value (den ρ s)) w) : QOk P st L o K ρ S w0 a :=
  ⟨st, s, ρ, hK, rfl, rfl, rfl, ChExt.refl _, fun _ _ => rfl, hm, fun i h1 h2 => absurd h2 (by omega), fun hL => ⟨(h hL).1, fun w hw => quiet_of_run ((h hL).2 w hw)⟩, fun _ hL => (h hL).2⟩

theorem q_move {x : Operand} (ho : o.op = .move x ∨ o.op = .assign x) (hm : MemOk st ρ S w0) (he : EnvOk ops st ρ a)
    (h : match getV st L x with | some s => K st s | none => False) : QOk P st L o K ρ S w0 a := by
  cases hg : getV st L x with
  | none => simp [hg] at h
  | some s =>
    simp only [hg] at h
    refine QOk.simple hm h fun hL => ?_
    obtain ⟨h1, h2⟩ := getV_sound he hL hg
    refine ⟨h2, fun w _ => ?_⟩
    rcases ho with ho | ho <;> simp [execOp, ho, h1]

def evRun (R : Value → Prop) : Ev → Prop
  | .ok v => R v
  | .ob p v => p → R v
  | .no => True

theorem ev_ok {ev : Ev} (hm : MemOk st ρ S w0) (h : evK st L K ev)
    (hr : holds st.bs L → evRun (fun v => ∀ w, (execOp a.eval o).run P w = .ok (.value v) w) ev) : QOk P st L o K ρ S w0 a := by
  cases ev with
  | ok v => exact QOk.simple (s := .v v) hm h fun hL => ⟨by simp [svOk], fun w _ => hr hL w⟩
  | ob p v => exact QOk.simple (s := .v v) hm h.2 fun hL => ⟨by simp [svOk], fun w _ => hr hL (impB_sound h.1 hL) w⟩
  | no => exact h.elim

theorem kEq_sound {k k' : IntKind} (h : kEq k k' = true) : k = k' := by
  cases k <;> cases k' <;> simp [kEq] at h <;> rfl

theorem binInt_run (op : BinOp) (t : TypeId) (x y : Operand) (k : IntKind) (m n : Int) :
    evRun (fun r => ∀ w, (do eqGuard op t x y (.int k m) (.int k n); binOp op t (.int k m) (.int k n) : Sem Value).run P w = .ok r w) (binInt op k m n) := by
  cases op <;> simp only [binInt, evRun] <;> first
    | trivial
    | (intro w; simp [eqGuard, binOp, Op.intArith, Op.intBits, Op.intCmp, bitsV]; done)
    | (intro w; simp [eqGuard, binOp, Op.intCmp]; rfl)
    | (intro hp w; simp [eqGuard, binOp, Op.intDiv, hp])

theorem binV_run (op : BinOp) (t : TypeId) (x y : Operand) (u v : Value) (d : TyD) (hd : d = .bool → P.underlying t = some .bool) :
    evRun (fun r => ∀ w, (do eqGuard op t x y u v; binOp op t u v : Sem Value).run P w = .ok r w) (binV d op u v) := by
  unfold binV
  split
  · intro hp w; simp only [eqGuard, binOp, Op.shift]; simp [shlV, show ¬ (_ < (0 : Int)) from Int.not_lt.2 hp]
  · intro hp w; simp only [eqGuard, binOp, Op.shift]; simp [shrV, show ¬ (_ < (0 : Int)) from Int.not_lt.2 hp]
  · split
    · rename_i hk; have := kEq_sound hk; subst this; exact binInt_run op t x y _ _ _
    · trivial
  · split
    · intro w
      simpa [eqGuard] using run_eql_bool (P := P) w t _ _ (hd rfl)
    · trivial
  · split
    · intro w
      simpa [eqGuard] using run_neq_bool (P := P) w t _ _ (hd rfl)
    · trivial
  · intro w; simp [eqGuard, binOp, Op.stringOp]
  · intro w; simp [eqGuard, binOp, Op.stringOp]
  · intro hp w
    simp only [eqGuard, binOp, Op.stringOp]
    rw [if_neg (Int.not_lt.2 hp)]
    rfl
  · trivial

/-- a slice's chunk is a slice -/
theorem chunk_any {bs : List BEnt} {S : Nat → Prop} {w : World} {ρ : Nat → Value} {c : Chunk} {v : Value} {n : Nat} {L : List (Nat × Bool)} (h : ChunkOk bs S w ρ c v) (hn : lenOf c = some n) (hcd : condC c L = true) (hL : holds bs L) :
    ∃ ad l cc, v = .slice ad l cc ∧ (ad = none → n = 0) := by
  have rdc : ∀ {α : Type} {inh : Inhabited α} {sz : Nat} {enc : α → List DV} {xs : List α}, DRep S w (.sl α inh sz enc xs) v → xs.length = n → ∃ ad l cc, v = .slice ad l cc ∧ (ad = none → n = 0) := by
    intro α inh sz enc xs h hn
    cases h with
    | sl ad c b o cell hc hne hcell _ =>
      refine ⟨ad, _, c, rfl, fun e => ?_⟩
      cases hx : xs with
      | nil => rw [← hn, hx]; rfl
      | cons a r => have := (hne (by rw [hx]; simp)).1; rw [e] at this; cases this
  cases c with
  | bx => simp [lenOf] at hn
  | yk => simp [lenOf] at hn
  | dead => simp [lenOf] at hn
  | glb => simp [lenOf] at hn
  | ob => simp [lenOf] at hn
  | rp => simp [lenOf] at hn
  | rd α inh sz enc xs => simp only [lenOf, Option.some.injEq] at hn; exact rdc h hn
  | cnd L' α inh sz enc xs => simp only [lenOf, Option.some.injEq] at hn; exact rdc (h (subL_sound hcd hL)) hn
  | own t α inh sz enc xs =>
    simp only [lenOf, Option.some.injEq] at hn
    obtain ⟨vals, ⟨_, h2⟩, _⟩ := h
    rcases h2 with ⟨rfl, h0⟩ | ⟨g, cap, cur, rfl, _⟩
    · exact ⟨none, _, _, rfl, fun _ => by omega⟩
    · exact ⟨_, _, _, rfl, fun e => by cases e⟩
  | raw t n sz cells => obtain ⟨b, rfl, _⟩ := h; exact ⟨_, _, _, rfl, fun e => by cases e⟩

theorem q_pure {op : Op} (ho : o.op = op) (hm : MemOk st ρ S w0) (he : EnvOk ops st ρ a) (h : pureK P st L op K) : QOk P st L o K ρ S w0 a := by
  obtain ⟨r, h1, h2⟩ := h
  exact QOk.simple (s := .v r) hm h2 fun hL => ⟨by simp [svOk], fun w hw => impB_sound h1 hL ρ S w a.eval o (hm.below hw) hL (fun x s hx => (getV_sound he hL hx).1) ho⟩

theorem q_pureS {op : Op} (ho : o.op = op) (hm : MemOk st ρ S w0) (he : EnvOk ops st ρ a) (h : pureSK P st L op K) : QOk P st L o K ρ S w0 a := by
  obtain ⟨s, h0, h1, h2⟩ := h
  exact QOk.simple hm h2 fun hL => ⟨h0, fun w hw => impB_sound h1 hL ρ S w a.eval o (hm.below hw) hL (fun x s hx => (getV_sound he hL hx).1) ho⟩

theorem q_bin {op : BinOp} {t : TypeId} {x y : Operand} {yt : TypeId} (htt : TTok P tt) (ho : o.op = .binOp op t x y yt) (hm : MemOk st ρ S w0) (he : EnvOk ops st ρ a)
    (h : binK P tt st L op t x y yt K) : QOk P st L o K ρ S w0 a := by
  unfold binK at h
  split at h
  · rename_i u v hx hy
    have key : (evK st L K (binV (ttGet tt t).d op u v)) → QOk P st L o K ρ S w0 a := by
      intro h
      refine ev_ok hm h fun hL => ?_
      have h1 := (getV_sound he hL hx).1
      have h2 := (getV_sound he hL hy).1
      have := binV_run (P := P) op t x y u v (ttGet tt t).d (fun hd => by have := tyOk_desc (htt t) (by rw [hd]; simp); rw [hd] at this; exact this)
      simp only [den] at h1 h2
      have e : ∀ r, (∀ w, (do eqGuard op t x y u v; binOp op t u v : Sem Value).run P w = .ok r w) → ∀ w, (execOp a.eval o).run P w = .ok (.value r) w := by
        intro r hr w
        have hr := hr w
        simp only [execOp, ho, h1, h2]
        simp only [Sem.run_bind] at hr ⊢
        rw [hr]
        rfl
      generalize binV (ttGet tt t).d op u v = ev at this ⊢
      cases ev with
      | ok r => exact e _ this
      | ob p r => exact fun hp => e _ (this hp)
      | no => trivial
    split at h
    · exact q_pure ho hm he h
    · exact key h
  · rename_i id hx hy
    have go : ∀ pos, nilK tt st L t id pos K → (op = .eql ∧ pos = true ∨ op = .neq ∧ pos = false) → QOk P st L o K ρ S w0 a := by
      intro pos h hop
      unfold nilK at h
      split at h
      case h_2 => exact h.elim
      rename_i e len hd hlen hcd
      have hu : P.underlying t = some (.slice e) := by have := tyOk_desc (htt t) (by rw [hd]; simp); rw [hd] at this; exact this
      by_cases hL : holds st.bs L
      · obtain ⟨h1, h2⟩ := getV_sound he hL hx
        have h3 := (getV_sound he hL hy).1
        simp only [svOk] at h2
        obtain ⟨ad, l, cc, hv, hn⟩ := chunk_any (hm.ok id h2) hlen hcd hL
        simp only [den, hv] at h1 h3
        rcases hop with ⟨rfl, rfl⟩ | ⟨rfl, rfl⟩
        · refine QOk.simple (s := .v (.bool ad.isNone)) hm (h _ (fun hb => hn (by simpa using hb))) fun _ => ⟨by simp [svOk], fun w _ => ?_⟩
          simp only [execOp, ho, h1, h3]
          simp [eqGuard, binOp, run_equal_slice_nil w t e ad l cc hu, den]
        · refine QOk.simple (s := .v (.bool (!ad.isNone))) hm (h _ (fun hb => hn (by simpa using hb))) fun _ => ⟨by simp [svOk], fun w _ => ?_⟩
          simp only [execOp, ho, h1, h3]
          simp [eqGuard, binOp, run_equal_slice_nil w t e ad l cc hu, den]
      · exact QOk.simple (s := .v (.bool (!pos))) hm (h _ (fun hb => by cases pos <;> simp at hb)) fun hL' => absurd hL' hL
    split at h
    · exact go true h (.inl ⟨rfl, rfl⟩)
    · exact go false h (.inr ⟨rfl, rfl⟩)
    · exact h.elim
  · exact q_pure ho hm he h

theorem q_un {op : UnOp} {t : TypeId} {x : Operand} (ho : o.op = .unOp op t x) (hm : MemOk st ρ S w0) (he : EnvOk ops st ρ a)
    (h : match getV st L x with
      | some (.v u) => evK st L K (unV op u)
      | _ => False) : QOk P st L o K ρ S w0 a := by
  split at h
  · rename_i u hx
    refine ev_ok hm h fun hL => ?_
    have h1 := (getV_sound he hL hx).1
    simp only [den] at h1
    unfold unV
    split <;> simp only [evRun]
    · intro w; simp [execOp, ho, h1, Op.unary]
    · intro w; simp [execOp, ho, h1, Op.unary, Op.intArith]
    · intro w; simp [execOp, ho, h1, Op.unary, Op.intBits, bitsV]
  · exact h.elim

/-- a slice's chunk that is not empty is a slice with an address -/
theorem chunk_slice {bs : List BEnt} {S : Nat → Prop} {w : World} {ρ : Nat → Value} {c : Chunk} {v : Value} {n : Nat} {L : List (Nat × Bool)} (h : ChunkOk bs S w ρ c v) (hn : lenOf c = some n) (hcd : condC c L = true) (hL : holds bs L) (hpos : 0 < n) :
    ∃ b oo l cc, v = .slice (some ⟨b, oo, none⟩) l cc := by
  cases c with
  | bx => simp [lenOf] at hn
  | yk => simp [lenOf] at hn
  | dead => simp [lenOf] at hn
  | glb => simp [lenOf] at hn
  | ob => simp [lenOf] at hn
  | rp => simp [lenOf] at hn
  | rd α inh sz enc xs =>
    simp only [lenOf, Option.some.injEq] at hn
    cases h with
    | sl ad c b o cell hc hne hcell _ =>
      obtain ⟨rfl, _⟩ := hne (by intro e; subst e; simp at hn; omega)
      exact ⟨b, o, _, _, rfl⟩
  | cnd L' α inh sz enc xs =>
    simp only [lenOf, Option.some.injEq] at hn
    cases h (subL_sound hcd hL) with
    | sl ad c b o cell hc hne hcell _ =>
      obtain ⟨rfl, _⟩ := hne (by intro e; subst e; simp at hn; omega)
      exact ⟨b, o, _, _, rfl⟩
  | own t α inh sz enc xs =>
    simp only [lenOf, Option.some.injEq] at hn
    obtain ⟨vals, ⟨_, h2⟩, _⟩ := h
    rcases h2 with ⟨_, h0⟩ | ⟨g, cap, cur, rfl, _⟩
    · omega
    · exact ⟨g, 0, _, _, rfl⟩
  | raw t n sz cells => obtain ⟨b, rfl, _⟩ := h; exact ⟨b, 0, _, _, rfl⟩

theorem chunk_block {bs : List BEnt} {S : Nat → Prop} {w : World} {ρ : Nat → Value} {c : Chunk} {v : Value} {n : Nat} {L : List (Nat × Bool)} (h : ChunkOk bs S w ρ c v) (hn : lenOf c = some n) (hcd : condC c L = true) (hL : holds bs L) (hpos : 0 < n)
    (hS : ∀ b, S b → b < w.heap.size) {b oo l cc : Nat} (hv : v = .slice (some ⟨b, oo, none⟩) l cc) : b < w.heap.size := by
  cases c with
  | bx => simp [lenOf] at hn
  | yk => simp [lenOf] at hn
  | dead => simp [lenOf] at hn
  | glb => simp [lenOf] at hn
  | ob => simp [lenOf] at hn
  | rp => simp [lenOf] at hn
  | rd α inh sz enc xs =>
    simp only [lenOf, Option.some.injEq] at hn
    subst hv
    cases h with
    | sl ad c b o cell hc hne hcell _ =>
      obtain ⟨e, hs⟩ := hne (by intro e; subst e; simp at hn; omega)
      simp at e
      exact e.1 ▸ hS _ hs
  | cnd L' α inh sz enc xs =>
    simp only [lenOf, Option.some.injEq] at hn
    subst hv
    cases h (subL_sound hcd hL) with
    | sl ad c b o cell hc hne hcell _ =>
      obtain ⟨e, hs⟩ := hne (by intro e; subst e; simp at hn; omega)
      simp at e
      exact e.1 ▸ hS _ hs
  | own t α inh sz enc xs =>
    obtain ⟨vals, ho, _⟩ := h
    exact (World.ownsRow.lt ho b (by rw [hv]; rfl)).2
  | raw t n sz cells => obtain ⟨b', rfl, hg⟩ := h; simp at hv; exact hv.1.1 ▸ (Array.getElem?_eq_some_iff.1 hg).1

theorem chunk_len {bs : List BEnt} {S : Nat → Prop} {w : World} {ρ : Nat → Value} {c : Chunk} {v : Value} {n : Nat} {L : List (Nat × Bool)} (h : ChunkOk bs S w ρ c v) (hn : lenOf c = some n) (hcd : condC c L = true) (hL : holds bs L)
    {ad : Option Addr} {l cc : Nat} (hv : v = .slice ad l cc) : l = n := by
  cases c with
  | bx => simp [lenOf] at hn
  | yk => simp [lenOf] at hn
  | dead => simp [lenOf] at hn
  | glb => simp [lenOf] at hn
  | ob => simp [lenOf] at hn
  | rp => simp [lenOf] at hn
  | rd α inh sz enc xs =>
    simp only [lenOf, Option.some.injEq] at hn
    subst hv
    cases h with
    | sl ad c b o cell hc hne hcell _ => exact hn
  | cnd L' α inh sz enc xs =>
    simp only [lenOf, Option.some.injEq] at hn
    subst hv
    cases h (subL_sound hcd hL) with
    | sl ad c b o cell hc hne hcell _ => exact hn
  | own t α inh sz enc xs =>
    simp only [lenOf, Option.some.injEq] at hn
    obtain ⟨vals, ⟨_, h2⟩, _⟩ := h
    subst hv
    rcases h2 with ⟨e, h0⟩ | ⟨g, cap, cur, e, _⟩
    · simp at e; omega
    · simp at e; omega
  | raw t n sz cells =>
    obtain ⟨b', rfl, hg⟩ := h
    simp only [lenOf, Option.some.injEq] at hn
    simp at hv; omega

theorem chunk_isSlice {bs : List BEnt} {S : Nat → Prop} {w : World} {ρ : Nat → Value} {c : Chunk} {v : Value} {n : Nat} {L : List (Nat × Bool)} (h : ChunkOk bs S w ρ c v) (hn : lenOf c = some n) (hcd : condC c L = true) (hL : holds bs L) :
    ∃ ad l cc, v = .slice ad l cc := by
  cases c with
  | bx => simp [lenOf] at hn
  | yk => simp [lenOf] at hn
  | dead => simp [lenOf] at hn
  | glb => simp [lenOf] at hn
  | ob => simp [lenOf] at hn
  | rp => simp [lenOf] at hn
  | rd α inh sz enc xs =>
    cases h with
    | sl ad c b o cell hc hne hcell _ => exact ⟨_, _, _, rfl⟩
  | cnd L' α inh sz enc xs =>
    cases h (subL_sound hcd hL) with
    | sl ad c b o cell hc hne hcell _ => exact ⟨_, _, _, rfl⟩
  | own t α inh sz enc xs =>
    obtain ⟨vals, ⟨_, h2⟩, _⟩ := h
    rcases h2 with ⟨rfl, h0⟩ | ⟨g, cap, cur, rfl, _⟩ <;> exact ⟨_, _, _, rfl⟩
  | raw t n sz cells => obtain ⟨b', rfl, hg⟩ := h; exact ⟨_, _, _, rfl⟩

theorem findG_sound : ∀ {ch : List Chunk} {g : Nat} {ds : List DV}, findG ch g = some ds → ∃ id, id < ch.length ∧ chGet ch id = .glb g ds
  | [], g, ds, h => by simp [findG] at h
  | c :: r, g, ds, h => by
    have rest : findG r g = some ds → ∃ id, id < (c :: r).length ∧ chGet (c :: r) id = .glb g ds := fun h => by
      obtain ⟨id, h1, h2⟩ := findG_sound h
      exact ⟨id + 1, by simpa using h1, h2⟩
    cases c <;> simp only [findG] at h <;> try exact rest h
    rename_i g' ds'
    split at h
    · rename_i hb
      simp only [Option.some.injEq] at h
      subst h
      have := Nat.eq_of_beq_eq_true hb
      subst this
      exact ⟨0, by simp, rfl⟩
    · exact rest h
theorem MemOk.glbRow {w : World} {g : Nat} {ds : List DV} (hm : MemOk st ρ S w) (h : findG st.ch g = some ds) : S g ∧ ∃ cs e fz, w.heap[g]? = some (.cells cs e fz) ∧ cs.size = ds.length ∧ ∀ (j : Nat) d, ds[j]? = some d → ∃ x, cs[j]? = some x ∧ DRep S w d x := by
  obtain ⟨id, h1, h2⟩ := findG_sound h
  have := hm.ok id h1
  rw [h2] at this
  exact this
theorem MemOk.glb {w : World} {g : Nat} {ds : List DV} (hm : MemOk st ρ S w) (h : findG st.ch g = some ds) : DRep S w (.ptr ds) (.pointer (some ⟨g, 0, none⟩)) := by
  obtain ⟨h1, cs, e, fz, h2, _, h4⟩ := hm.glbRow h
  refine .ptr g 0 (fun j => (cs[j]?).getD undef) h1 (fun j d hd => ?_) (fun j d hd => ?_)
  · obtain ⟨x, h5, _⟩ := h4 j d hd
    rw [Nat.zero_add, World.cell?, h2]
    simp [h5]
  · obtain ⟨x, h5, h6⟩ := h4 j d hd
    rw [h5]; exact h6

/-- an address -/
theorem addr_sound {bs : List BEnt} {w : World} {s : SV} (hm : MemOk st ρ S w) (h : addrOk st L s = true) (hL : holds st.bs L) (hs : svOk st.ch s) (hbs : bs = st.bs) :
    ∃ b o, b < w.heap.size ∧ ∀ k, den ρ (addOff k s) = .pointer (some ⟨b, o + k, none⟩) ∧ svOk st.ch (addOff k s) := by
  subst hbs
  cases s with
  | bx id off =>
    simp only [svOk] at hs
    simp only [addrOk] at h
    have hok := hm.ok id hs
    split at h
    case h_2 => exact absurd h (by simp)
    rename_i hbx hcd
    have fin : ∀ b o, ρ id = .pointer (some ⟨b, o, none⟩) → b < w.heap.size → ∃ b o, b < w.heap.size ∧ ∀ k, den ρ (addOff k (.bx id off)) = .pointer (some ⟨b, o + k, none⟩) ∧ svOk st.ch (addOff k (.bx id off)) := by
      intro b o hb hlt
      refine ⟨b, o + off, hlt, fun k => ⟨?_, by simpa [addOff, svOk] using hs⟩⟩
      simp only [addOff, den, hb, Nat.add_assoc]
    cases hc : chGet st.ch id <;> simp only [hc, isBx] at hbx <;> try contradiction
    · rename_i t cells
      rw [hc] at hok
      obtain ⟨b, hb, hg⟩ := hok
      exact fin b 0 hb (Array.getElem?_eq_some_iff.1 hg).1
    · rename_i L' cells
      rw [hc] at hok hcd
      have hd := hok (subL_sound hcd hL)
      generalize hv : ρ id = v at hd fin
      cases hd with
      | ptr b o cell hb _ _ => exact fin b o rfl (hm.lt b hb)
  | el id sz i off =>
    simp only [svOk] at hs
    simp only [addrOk] at h
    split at h
    · rename_i n hn hcd
      have hlt := (hs.2 _ hn).1
      have hok := hm.ok id hs.1
      obtain ⟨b, oo, l, c, hv⟩ := chunk_slice hok hn hcd hL (by omega)
      refine ⟨b, oo + i * sz + off, ?_, fun k => ⟨?_, by simpa [addOff, svOk] using hs⟩⟩
      · exact chunk_block hok hn hcd hL (by omega) hm.lt hv
      · simp only [addOff, den, hv, Nat.add_assoc]
    · exact absurd h (by simp)
  | v x =>
    unfold addrOk at h
    split at h
    case h_3 g off heq =>
      cases heq
      split at h
      · rename_i ds hd
        have := hm.glb hd
        cases this with
        | ptr b o cell hb _ _ => exact ⟨g, off, hm.lt g hb, fun k => ⟨rfl, by simp [addOff, svOk]⟩⟩
      · cases h
    all_goals first | (rename_i heq; cases heq; done) | cases h
  | _ => simp [addrOk] at h

theorem addOff_zero {s : SV} (h : addrOk st L s = true) : addOff 0 s = s := by
  unfold addrOk at h
  split at h <;> first | rfl | cases h

theorem arrC_own {c : Chunk} {len : Nat} (h : arrC c = some len) : ∃ t α inh sz enc, ∃ xs : List α, c = .own t α inh sz enc xs ∧ xs.length = len := by
  cases c <;> simp [arrC] at h
  exact ⟨_, _, _, _, _, _, rfl, h⟩

theorem q_nilCheck {x : Operand} (ho : o.op = .nilCheck x) (hm : MemOk st ρ S w0) (he : EnvOk ops st ρ a)
    (h : match getV st L x with
      | some s => (match addrOk st L s with | true => K st s | false => arrNil st L s K)
      | none => False) : QOk P st L o K ρ S w0 a := by
  cases hx : getV st L x with
  | none => simp [hx] at h
  | some s =>
    simp only [hx] at h
    cases ha : addrOk st L s with
    | false =>
      simp only [ha] at h
      unfold arrNil at h
      split at h
      case h_2 => exact h.elim
      rename_i id off
      split at h
      case h_2 => exact h.elim
      rename_i len hlen
      refine QOk.simple hm h.2 fun hL => ?_
      obtain ⟨h1, h2⟩ := getV_sound he hL hx
      have hp := impB_sound h.1 hL
      simp only [svOk] at h2
      obtain ⟨t, α, inh, sz, enc, xs, hc, hxl⟩ := arrC_own hlen
      have hok := hm.ok id h2
      rw [hc] at hok
      obtain ⟨b, oo, l, cc, hv⟩ := chunk_slice (L := L) hok (n := len) (by simp [lenOf, hxl]) rfl hL hp
      refine ⟨by simpa [svOk] using h2, fun w _ => ?_⟩
      simp only [den, hv] at h1 ⊢
      simp [execOp, ho, h1]
    | true =>
      simp only [ha] at h
      refine QOk.simple hm h fun hL => ?_
      obtain ⟨h1, h2⟩ := getV_sound he hL hx
      obtain ⟨b, oo, _, hk⟩ := addr_sound hm ha hL h2 rfl
      have := (hk 0).1
      rw [addOff_zero ha] at this
      refine ⟨h2, fun w _ => ?_⟩
      simp [execOp, ho, h1, this]

theorem q_fieldAddr {t : TypeId} {x : Operand} {f : Nat} (htt : TTok P tt) (ho : o.op = .fieldAddr t x f) (hm : MemOk st ρ S w0) (he : EnvOk ops st ρ a)
    (h : match (ttGet tt t).d with
    | .st fs => match fldGet fs f with
      | some (off, ft) => match (ttGet tt ft).size with
        | 0 => False
        | _ + 1 => match getV st L x with
          | some s => (match addrOk st L s with | true => K st (addOff off s) | false => False)
          | none => False
      | none => False
    | _ => False) : QOk P st L o K ρ S w0 a := by
  split at h
  · rename_i fs hd
    split at h
    · rename_i off ft hf
      split at h
      · exact h.elim
      · rename_i n hsz
        split at h
        · rename_i s hx
          split at h
          · rename_i ha
            refine QOk.simple hm h fun hL => ?_
            obtain ⟨h1, h2⟩ := getV_sound he hL hx
            obtain ⟨b, oo, _, hk⟩ := addr_sound hm ha hL h2 rfl
            refine ⟨(hk off).2, fun w _ => ?_⟩
            have h0 := (hk 0).1
            rw [addOff_zero ha] at h0
            have hdesc := tyOk_desc (htt t) (by rw [hd]; simp)
            rw [hd] at hdesc
            obtain ⟨fields, hu, hfs⟩ := st_fields hdesc
            obtain ⟨fd, hfd, e1, e2⟩ := hfs f off ft hf
            obtain ⟨i, z, hi, hsize, _⟩ := tyOk_info (htt ft) (by rw [hsz]; simp)
            rw [(hk off).1]
            have hi' : P.info? fd.type = some i := by rw [e2]; exact hi
            have hne : i.size ≠ 0 := by rw [hsize, hsz]; simp
            simp [execOp, ho, h1, h0, Instr.fieldAt, run_underlying hu, hfd, Instr.sureAddr, fieldPlace, sizeOf, typeInfo, hi', hne, Addr.add_lit, e1]
          · exact h.elim
        · exact h.elim
    · exact h.elim
  · exact h.elim

theorem arrAt_sound {t : TypeId} {x i : Operand} {n e sz : Nat} {s : SV} {k : IntKind} {j : Int} (htt : TTok P tt) (ho : o.op = .indexAddr t x i) (hm : MemOk st ρ S w0) (he : EnvOk ops st ρ a)
    (hd : (ttGet tt t).d = .arr n e) (hsz : (ttGet tt e).size = sz) (hs0 : 0 < sz) (hx : getV st L x = some s) (hi : getV st L i = some (.v (.int k j))) (h : arrAt st L s n sz j K) : QOk P st L o K ρ S w0 a := by
  have hdesc := tyOk_desc (htt t) (by rw [hd]; simp)
  rw [hd] at hdesc
  have hdesc : P.underlying t = some (.array n e) := hdesc
  obtain ⟨inf, z, hinf, hsize, _⟩ := tyOk_info (htt e) (by omega)
  have hs : inf.size = sz := by rw [hsize, hsz]
  have fin : addrOk st L s = true → (holds st.bs L → 0 ≤ j ∧ j < n) → K st (addOff (j.toNat * sz) s) → QOk P st L o K ρ S w0 a := by
    intro ha hb hK
    refine QOk.simple hm hK fun hL => ?_
    obtain ⟨hj1, hj2⟩ := hb hL
    obtain ⟨h1, h2⟩ := getV_sound he hL hx
    obtain ⟨h3, _⟩ := getV_sound he hL hi
    obtain ⟨b, oo, _, hk⟩ := addr_sound hm ha hL h2 rfl
    refine ⟨(hk _).2, fun w _ => ?_⟩
    have h0 := (hk 0).1
    rw [addOff_zero ha] at h0
    rw [(hk _).1]
    simp only [den] at h3
    simp [execOp, ho, h1, h3, h0, Instr.indexAt, run_underlying hdesc, asIntOf, Instr.sureAddr, sizeOf, typeInfo, hinf, hs, hj1, hj2, Addr.add_lit]
  unfold arrAt at h
  split at h
  · rename_i ha
    split at h
    · rename_i u
      exact fin ha (fun hL => impB_sound h.1 hL) h.2
    · split at h
      · rename_i j'
        split at h
        · rename_i hj
          have hjn : j' < n := Nat.le_of_ble_eq_true hj
          exact fin ha (fun _ => ⟨Int.natCast_nonneg j', Int.ofNat_lt.2 hjn⟩) (by simpa using h)
        · exact h.elim
      · exact h.elim
  · split at h
    case h_2 => exact h.elim
    rename_i id _
    split at h
    case h_2 => exact h.elim
    rename_i len sz' hlen hsz'
    split at h
    case h_2 => exact h.elim
    rename_i hbq
    have hbq := Nat.eq_of_beq_eq_true hbq
    subst hbq
    refine QOk.simple hm h.2 fun hL => ?_
    obtain ⟨h1, h2⟩ := getV_sound he hL hx
    obtain ⟨h3, _⟩ := getV_sound he hL hi
    obtain ⟨hj1, hj2, hj3⟩ := impB_sound h.1 hL
    simp only [svOk] at h2
    obtain ⟨t', α, inh, sz2, enc, xs, hc, hxl⟩ := arrC_own hlen
    rw [hc] at hsz'
    simp only [szOf, Option.some.injEq] at hsz'
    subst hsz'
    have hok := hm.ok id h2
    rw [hc] at hok
    obtain ⟨b, oo, l, cc, hv⟩ := chunk_slice (L := L) hok (n := len) (by simp [lenOf, hxl]) rfl hL (by omega)
    refine ⟨⟨h2, fun m hm' => ?_⟩, fun w _ => ?_⟩
    · rw [hc] at hm' ⊢
      simp only [lenOf, Option.some.injEq] at hm'
      exact ⟨by omega, rfl⟩
    simp only [den, hv] at h1 h3 ⊢
    simp [execOp, ho, h1, h3, Instr.indexAt, run_underlying hdesc, asIntOf, Instr.sureAddr, sizeOf, typeInfo, hinf, hs, hj1, hj2, Addr.add_lit]

theorem q_indexAddr {t : TypeId} {x i : Operand} (htt : TTok P tt) (ho : o.op = .indexAddr t x i) (hm : MemOk st ρ S w0) (he : EnvOk ops st ρ a)
    (h : match (ttGet tt t).d with
    | .sl e => match getV st L x, getV st L i with
      | some (.sl id), some (.v (.int _ n)) => match lenOf (chGet st.ch id), condC (chGet st.ch id) L, szOf (chGet st.ch id) with
        | some len, true, some sz => match Nat.beq sz (ttGet tt e).size, Nat.blt 0 sz with
          | true, true => impB st.bs L (0 ≤ n ∧ n < len) ∧ K st (.el id sz n.toNat 0)
          | _, _ => False
        | _, _, _ => False
      | _, _ => False
    | .arr n e => (match getV st L x, getV st L i, (ttGet tt e).size with
      | some s, some (.v (.int _ j)), sz + 1 => arrAt st L s n (sz + 1) j K
      | _, _, _ => False)
    | _ => False) : QOk P st L o K ρ S w0 a := by
  split at h
  · rename_i e hd
    split at h
    · rename_i id k n hx hi
      split at h
      · rename_i len sz hlen hcd hsz
        split at h
        · rename_i hbeq hpos
          refine QOk.simple hm h.2 fun hL => ?_
          obtain ⟨h1, h2⟩ := getV_sound he hL hx
          obtain ⟨h3, _⟩ := getV_sound he hL hi
          have hb := impB_sound h.1 hL
          simp only [svOk] at h2
          have hlt : n.toNat < len := by omega
          have hok := hm.ok id h2
          obtain ⟨b, oo, l, c, hv⟩ := chunk_slice hok hlen hcd hL (by omega)
          have hl : l = len := chunk_len hok hlen hcd hL hv
          subst hl
          refine ⟨by simp only [svOk]; exact ⟨h2, fun m hm' => by rw [hlen] at hm'; simp at hm'; exact ⟨by omega, hsz⟩⟩, fun w _ => ?_⟩
          simp only [den, hv] at h1 h3 ⊢
          have hdesc := tyOk_desc (htt t) (by rw [hd]; simp)
          rw [hd] at hdesc
          have hsz' := Nat.eq_of_beq_eq_true hbeq
          have hsz0 : (ttGet tt e).d ≠ .other ∨ sz = 0 := by
            by_cases hoth : (ttGet tt e).d = .other
            · right; have := htt e; unfold tyOk at this; rw [hoth] at this; simp at this; omega
            · exact .inl hoth
          rcases hsz0 with hoth | h0
          · obtain ⟨inf, z, hinf, hsize, _⟩ := tyOk_info' (htt e) hoth
            have : inf.size = sz := by omega
            simp [execOp, ho, h1, h3, Instr.indexAt, run_underlying hdesc, asIntOf, hb.1, hb.2, sizeOf, typeInfo, hinf, this, Addr.add_lit]
          · subst h0; simp at hpos
        · exact h.elim
      · exact h.elim
    · exact h.elim
  · rename_i n e hd
    split at h
    · rename_i s k j m hx hi hsz
      exact arrAt_sound htt ho hm he hd hsz (by omega) hx hi h
    · exact h.elim
  · exact h.elim
end
end Go.Eng

/-! part Snd3 -/
namespace Go.Eng
open Go.RowKit

section
variable {P : Program} {tt : TT} {ops : Array Oper} {st : St} {L : List (Nat × Bool)} {o : Oper} {K : St → SV → Prop} {ρ : Nat → Value} {S : Nat → Prop} {w0 : World} {a : Act}

def upd (ρ : Nat → Value) (i : Nat) (v : Value) : Nat → Value := fun j => if j = i then v else ρ j
theorem upd_same (ρ : Nat → Value) (i : Nat) (v : Value) : upd ρ i v i = v := by simp [upd]
theorem upd_ne (ρ : Nat → Value) {i j : Nat} (v : Value) (h : j ≠ i) : upd ρ i v j = ρ j := by simp [upd, h]

theorem ChunkOk.congr {bs : List BEnt} {ch : List Chunk} {w : World} {ρ' : Nat → Value} {c : Chunk} {v : Value} (h : ∀ id, id < ch.length → ρ' id = ρ id) (hc : svOkL ch (cellsIn c))
    (hk : ChunkOk bs S w ρ c v) : ChunkOk bs S w ρ' c v := by
  cases c with
  | bx t cells =>
    obtain ⟨b, hb, hg⟩ := hk
    exact ⟨b, hb, by rw [denL_congr h cells hc]; exact hg⟩
  | raw t n sz cells =>
    obtain ⟨b, hb, hg⟩ := hk
    exact ⟨b, hb, by rw [denL_congr h cells hc]; exact hg⟩
  | _ => exact hk

/-- a chunk that is only read, or a new one of one's own, comes to the others -/
theorem MemOk.addCh {st' : St} {w : World} {c : Chunk} {v : Value} (hm : MemOk st ρ S w) (hch : st'.ch = snocL st.ch c) (hbs : st'.bs = st.bs) (hc : ChunkOk st.bs S w (upd ρ st.ch.length v) c v) (hcl : svOkL (snocL st.ch c) (cellsIn c))
    (hccl : closed st.bs (condsOf c)) (hown : ∀ b, ownBlk c v = some b → ¬ S b ∧ ∀ i, i < st.ch.length → ownBlk (chGet st.ch i) (ρ i) ≠ some b) : MemOk st' (upd ρ st.ch.length v) S w where
  ok id hid := by
    rw [hch, snocL_length] at hid
    rw [hch, hbs]
    by_cases e : id = st.ch.length
    · subst e; rw [chGet_snoc_new, upd_same]; exact hc
    · have hlt : id < st.ch.length := by omega
      rw [chGet_snoc_old _ _ _ hlt, upd_ne _ _ e]
      exact ChunkOk.congr (ch := st.ch) (fun i hi => upd_ne _ _ (by omega)) (hm.cells id) (hm.ok id hlt)
  cells id := by
    rw [hch]
    by_cases e : id = st.ch.length
    · subst e; rw [chGet_snoc_new]; exact hcl
    · by_cases hlt : id < st.ch.length
      · rw [chGet_snoc_old _ _ _ hlt]
        exact svOkL_ext (ChExt.snoc _ _) _ (hm.cells id)
      · rw [chGet_out _ _ (by rw [snocL_length]; omega)]
        simp [cellsIn, svOkL]
  sep i j b hi hj hij h1 := by
    rw [hch, snocL_length] at hi hj
    rw [hch] at h1 ⊢
    by_cases ei : i = st.ch.length
    · subst ei
      rw [chGet_snoc_new, upd_same] at h1
      rw [chGet_snoc_old _ _ _ (by omega), upd_ne _ _ (by omega)]
      exact (hown b h1).2 j (by omega)
    · rw [chGet_snoc_old _ _ _ (by omega), upd_ne _ _ ei] at h1
      by_cases ej : j = st.ch.length
      · subst ej
        rw [chGet_snoc_new, upd_same]
        intro h2
        exact (hown b h2).2 i (by omega) h1
      · rw [chGet_snoc_old _ _ _ (by omega), upd_ne _ _ ej]
        exact hm.sep i j b (by omega) (by omega) hij h1
  out i b hi h1 := by
    rw [hch, snocL_length] at hi
    rw [hch] at h1
    by_cases ei : i = st.ch.length
    · subst ei; rw [chGet_snoc_new, upd_same] at h1; exact (hown b h1).1
    · rw [chGet_snoc_old _ _ _ (by omega), upd_ne _ _ ei] at h1
      exact hm.out i b (by omega) h1
  lt := hm.lt
  ccl id := by
    rw [hbs, hch]
    by_cases e : id = st.ch.length
    · subst e; rw [chGet_snoc_new]; exact hccl
    · by_cases hlt : id < st.ch.length
      · rw [chGet_snoc_old _ _ _ hlt]; exact hm.ccl id
      · rw [chGet_out _ _ (by rw [snocL_length]; omega)]
        intro p hp
        simp [condsOf] at hp

theorem rdOr_ok {bs : List BEnt} {w : World} {ρ' : Nat → Value} {α : Type} {inh : Inhabited α} {sz : Nat} {enc : α → List DV} {xs : List α} {v : Value} (h : holds bs L → DRep S w (.sl α inh sz enc xs) v) : ChunkOk bs S w ρ' (rdOr L α inh sz enc xs) v := by
  unfold rdOr
  split
  · exact h trivial
  · exact h
theorem rdOr_ccl {bs : List BEnt} (hcl : closed bs L) {α : Type} {inh : Inhabited α} {sz : Nat} {enc : α → List DV} {xs : List α} : closed bs (condsOf (rdOr L α inh sz enc xs)) := by
  unfold rdOr
  split
  · exact hcl
  · exact hcl
theorem rdOr_own {α : Type} {inh : Inhabited α} {sz : Nat} {enc : α → List DV} {xs : List α} {v : Value} : ownBlk (rdOr L α inh sz enc xs) v = none := by
  unfold rdOr; split <;> rfl
theorem rdOr_cells {ch : List Chunk} {α : Type} {inh : Inhabited α} {sz : Nat} {enc : α → List DV} {xs : List α} : svOkL ch (cellsIn (rdOr L α inh sz enc xs)) := by
  unfold rdOr; split <;> simp [cellsIn, svOkL]

structure Step (st st' : St) (ρ ρ' : Nat → Value) (S : Nat → Prop) (w0 : World) : Prop where
  n : st'.n = st.n
  env : st'.env = st.env
  bs : st'.bs = st.bs
  chx : ChExt st.ch st'.ch
  old : ∀ id, id < st.ch.length → ρ' id = ρ id
  mem : MemOk st' ρ' S w0
  own : ∀ i, st.ch.length ≤ i → i < st'.ch.length → (∀ b, ownBlk (chGet st'.ch i) (ρ' i) ≠ some b) ∧ noY (chGet st'.ch i) = true
theorem Step.refl (hm : MemOk st ρ S w0) : Step st st ρ ρ S w0 := ⟨rfl, rfl, rfl, ChExt.refl _, fun _ _ => rfl, hm, fun i h1 h2 => absurd h2 (by omega)⟩
theorem Step.trans {s1 s2 s3 : St} {r1 r2 r3 : Nat → Value} (h : Step s1 s2 r1 r2 S w0) (k : Step s2 s3 r2 r3 S w0) : Step s1 s3 r1 r3 S w0 :=
  ⟨k.n.trans h.n, k.env.trans h.env, k.bs.trans h.bs, h.chx.trans k.chx, fun id hi => (k.old id (Nat.lt_of_lt_of_le hi h.chx.1)).trans (h.old id hi), k.mem, fun i h1 h2 => by
    by_cases hi : i < s2.ch.length
    · rw [k.chx.2 i hi, k.old i hi]; exact h.own i h1 hi
    · exact k.own i (by omega) h2⟩

theorem newCh_any {K : St → Nat → Prop} {c : Chunk} {v : Value} (hm : MemOk st ρ S w0) (hcl : closed st.bs (condsOf c))
    (hok : ChunkOk st.bs S w0 (upd ρ st.ch.length v) c v) (hce : cellsIn c = []) (hown : ownBlk c v = none) (hny : noY c = true) (h : newCh st c K) :
    ∃ st', K st' st.ch.length ∧ Step st st' ρ (upd ρ st.ch.length v) S w0 ∧ st.ch.length < st'.ch.length := by
  obtain ⟨n, env, ch, bs, ids⟩ := st
  simp only [newCh, snocK_eq] at h
  cases ids with
  | nil => exact h.elim
  | cons i is =>
    simp only at h
    cases hb : Nat.beq i ch.length with
    | false => simp [hb] at h
    | true =>
      simp only [hb] at h
      have hi := Nat.eq_of_beq_eq_true hb
      subst hi
      refine ⟨_, h, ⟨rfl, rfl, rfl, ChExt.snoc _ _, fun id hid => upd_ne _ _ (Nat.ne_of_lt hid), ?_, fun i h1 h2 => ?_⟩, by simp [snocL_length]⟩
      · exact MemOk.addCh hm rfl rfl hok (by rw [hce]; simp [svOkL]) hcl (fun b e => by rw [hown] at e; cases e)
      · simp only [snocL_length] at h1 h2
        have e : i = ch.length := by omega
        subst e
        simp only [chGet_snoc_new, upd_same, hown]; exact ⟨fun b e => by simp at e, hny⟩

theorem newCh_sound {K : St → Nat → Prop} {α : Type} {inh : Inhabited α} {sz : Nat} {enc : α → List DV} {xs : List α} {v : Value} (hm : MemOk st ρ S w0) (hcl : closed st.bs L)
    (hd : holds st.bs L → DRep S w0 (.sl α inh sz enc xs) v) (h : newCh st (rdOr L α inh sz enc xs) K) :
    ∃ st', K st' st.ch.length ∧ Step st st' ρ (upd ρ st.ch.length v) S w0 ∧ st.ch.length < st'.ch.length :=
  newCh_any hm (rdOr_ccl hcl) (rdOr_ok hd) (by unfold rdOr; split <;> rfl) rdOr_own (by unfold rdOr; split <;> rfl) h

theorem newRp_sound {K : St → Nat → Prop} {cells : List DV} {v : Value} (hm : MemOk st ρ S w0) (hcl : closed st.bs L)
    (hd : holds st.bs L → DRep S w0 (.ptr cells) v) (h : newCh st (.rp L cells) K) :
    ∃ st', K st' st.ch.length ∧ Step st st' ρ (upd ρ st.ch.length v) S w0 ∧ st.ch.length < st'.ch.length :=
  newCh_any (c := .rp L cells) hm hcl hd rfl rfl rfl h

theorem dvs_sound : ∀ (ds : List DV) (st : St) (K : St → List SV → Prop) (ρ : Nat → Value) (vals : List Value), MemOk st ρ S w0 → closed st.bs L →
    (holds st.bs L → vals.length = ds.length ∧ ∀ (j : Nat) d v, ds[j]? = some d → vals[j]? = some v → DRep S w0 d v) → dvs2svs L ds st K →
    ∃ st' l ρ', K st' l ∧ Step st st' ρ ρ' S w0 ∧ (holds st.bs L → svOkL st'.ch l ∧ denL ρ' l = vals)
  | [], st, K, ρ, vals, hm, hcl, hv, h => ⟨st, [], ρ, h, Step.refl hm, fun hL => ⟨trivial, by have := (hv hL).1; simp at this; subst this; rfl⟩⟩
  | .v x :: r, st, K, ρ, vals, hm, hcl, hv, h => by
    simp only [dvs2svs] at h
    obtain ⟨st', l, ρ', hK, hs, hl⟩ := dvs_sound r st _ ρ vals.tail hm hcl (fun hL => by
      obtain ⟨h1, h2⟩ := hv hL
      refine ⟨by simp [h1], fun j d v hd hv' => h2 (j + 1) d v (by simpa using hd) (by rw [List.getElem?_tail] at hv'; exact hv')⟩) h
    refine ⟨st', .v x :: l, ρ', hK, hs, fun hL => ?_⟩
    obtain ⟨h1, h2⟩ := hl hL
    obtain ⟨h3, h4⟩ := hv hL
    cases vals with
    | nil => simp at h3
    | cons v vs =>
      have := h4 0 (.v x) v rfl rfl
      cases this
      exact ⟨⟨by simp [svOk], h1⟩, by simp only [denL, den, h2, List.tail_cons]⟩
  | .sl α inh sz enc xs :: r, st, K, ρ, vals, hm, hcl, hv, h => by
    simp only [dvs2svs] at h
    obtain ⟨st1, h1, hs1, hlt⟩ := newCh_sound (v := vals.head?.getD undef) hm hcl (fun hL => by
      obtain ⟨h3, h4⟩ := hv hL
      cases vals with
      | nil => simp at h3
      | cons v vs => exact h4 0 _ v rfl rfl) h
    obtain ⟨st', l, ρ', hK, hs, hl⟩ := dvs_sound r st1 _ _ vals.tail hs1.mem (by rw [hs1.bs]; exact hcl) (fun hL => by
      rw [hs1.bs] at hL
      obtain ⟨h1, h2⟩ := hv hL
      refine ⟨by simp [h1], fun j d v hd hv' => h2 (j + 1) d v (by simpa using hd) (by rw [List.getElem?_tail] at hv'; exact hv')⟩) h1
    refine ⟨st', .sl st.ch.length :: l, ρ', hK, hs1.trans hs, fun hL => ?_⟩
    obtain ⟨h5, h6⟩ := hl (by rw [hs1.bs]; exact hL)
    obtain ⟨h3, h4⟩ := hv hL
    cases vals with
    | nil => simp at h3
    | cons v vs =>
      refine ⟨⟨by simp only [svOk]; exact Nat.lt_of_lt_of_le hlt hs.chx.1, h5⟩, ?_⟩
      simp only [denL, den, h6, List.tail_cons, hs.old _ hlt, upd_same]
      rfl

  | .ptr cells :: r, st, K, ρ, vals, hm, hcl, hv, h => by
    simp only [dvs2svs] at h
    obtain ⟨st1, h1, hs1, hlt⟩ := newRp_sound (v := vals.head?.getD undef) hm hcl (fun hL => by
      obtain ⟨h3, h4⟩ := hv hL
      cases vals with
      | nil => simp at h3
      | cons v vs => exact h4 0 _ v rfl rfl) h
    obtain ⟨st', l, ρ', hK, hs, hl⟩ := dvs_sound r st1 _ _ vals.tail hs1.mem (by rw [hs1.bs]; exact hcl) (fun hL => by
      rw [hs1.bs] at hL
      obtain ⟨h1, h2⟩ := hv hL
      refine ⟨by simp [h1], fun j d v hd hv' => h2 (j + 1) d v (by simpa using hd) (by rw [List.getElem?_tail] at hv'; exact hv')⟩) h1
    refine ⟨st', .bx st.ch.length 0 :: l, ρ', hK, hs1.trans hs, fun hL => ?_⟩
    obtain ⟨h5, h6⟩ := hl (by rw [hs1.bs]; exact hL)
    obtain ⟨h3, h4⟩ := hv hL
    cases vals with
    | nil => simp at h3
    | cons v vs =>
      refine ⟨⟨by simp only [svOk]; exact Nat.lt_of_lt_of_le hlt hs.chx.1, h5⟩, ?_⟩
      have hp := h4 0 _ v rfl rfl
      cases hp with
      | ptr b o cell _ _ _ =>
        simp only [denL, den, h6, List.tail_cons, hs.old _ hlt, upd_same]
        rfl

/-- what lies in an element -/
theorem elem_sound {bs : List BEnt} {w : World} {ρ : Nat → Value} {c : Chunk} {v : Value} {n sz i : Nat} {ds : List DV} (h : ChunkOk bs S w ρ c v) (hS : ∀ b, S b → b < w.heap.size) (he : elemCells c sz i = some ds) (hn : lenOf c = some n) (hcd : condC c L = true) (hL : holds bs L) (hi : i < n) :
    ∃ b oo l cc, v = .slice (some ⟨b, oo, none⟩) l cc ∧ b < w.heap.size ∧ ∀ (j : Nat) d, ds[j]? = some d → ∃ x, w.cell? ⟨b, oo + i * sz + j, none⟩ = some x ∧ DRep S w d x := by
  have rep : ∀ {α : Type} {inh : Inhabited α} {sz' : Nat} {enc : α → List DV} {xs : List α}, DRep S w (.sl α inh sz' enc xs) v → i < xs.length → sz = sz' → ds = enc (nth xs i) →
      ∃ b oo l cc, v = .slice (some ⟨b, oo, none⟩) l cc ∧ b < w.heap.size ∧ ∀ (j : Nat) d, ds[j]? = some d → ∃ x, w.cell? ⟨b, oo + i * sz + j, none⟩ = some x ∧ DRep S w d x := by
    intro α inh sz' enc xs hd hi e1 e2
    subst e1 e2
    cases hd with
    | sl ad c b o cell hc hne hcell hrep =>
      obtain ⟨rfl, hSb⟩ := hne (by intro e; subst e; simp at hi)
      exact ⟨b, o, _, _, rfl, hS b hSb, fun j d hd => ⟨_, hcell i j d hi hd, hrep i j d hi hd⟩⟩
  cases c with
  | bx => simp [lenOf] at hn
  | yk => simp [lenOf] at hn
  | dead => simp [lenOf] at hn
  | glb => simp [lenOf] at hn
  | ob => simp [lenOf] at hn
  | rd α inh sz' enc xs =>
    simp only [lenOf, Option.some.injEq] at hn
    simp only [elemCells] at he
    split at he
    · rename_i hb
      simp only [Option.some.injEq] at he
      exact rep h (by omega) (Nat.eq_of_beq_eq_true hb) he.symm
    · simp at he
  | cnd L' α inh sz' enc xs =>
    simp only [lenOf, Option.some.injEq] at hn
    simp only [elemCells] at he
    split at he
    · rename_i hb
      simp only [Option.some.injEq] at he
      exact rep (h (subL_sound hcd hL)) (by omega) (Nat.eq_of_beq_eq_true hb) he.symm
    · simp at he
  | raw => simp [elemCells] at he
  | rp => simp [elemCells] at he
  | own t α inh sz' enc xs =>
    simp only [lenOf, Option.some.injEq] at hn
    simp only [elemCells] at he
    split at he
    · rename_i hb
      simp only [Option.some.injEq] at he
      have e1 := Nat.eq_of_beq_eq_true hb
      subst e1
      obtain ⟨vals, ho, hv⟩ := h
      have ho' := ho
      obtain ⟨_, h2⟩ := ho'
      rcases h2 with ⟨_, h0⟩ | ⟨g, cap, cur, rfl, _⟩
      · omega
      · refine ⟨g, 0, _, _, rfl, (World.ownsRow.lt ho g rfl).2, fun j d hd => ?_⟩
        subst he
        obtain ⟨x, hx, _, hr⟩ := hv i j d (by omega) hd
        refine ⟨x, ?_, hr⟩
        have := ho.cells (g := g) rfl _ x hx
        rw [Addr.add_lit] at this
        simpa [Nat.zero_add] using this
    · simp at he

theorem run_loadVar_scalar {t : TypeId} {ad : Addr} {w : World} {v : Value} (ha : (isAgg t).run P w = .ok false w) (h : w.cell? ad = some v) : (loadVar t ad).run P w = .ok v w := by
  simp [loadVar, ha, h]
theorem run_loadVar_agg {t : TypeId} {ad : Addr} {w : World} {vs : List Value} (ha : (isAgg t).run P w = .ok true w) (hs : (sizeOf t).run P w = .ok vs.length w) (h : ∀ j v, vs[j]? = some v → w.cell? (ad.add j) = some v) : (loadVar t ad).run P w = .ok (.agg vs.toArray) w := by
  have := run_loadCells_list (P := P) (w := w) ad vs h
  simp [loadVar, ha, hs, this]

theorem isAgg_run {t : TypeId} {r : TyR} (h : tyOk P t r) (hd : r.d ≠ .other) (w : World) : (isAgg t).run P w = .ok (isAggD r.d) w := by
  have hdesc := tyOk_desc h hd
  cases he : r.d <;> simp only [he] at hdesc
  case other => exact absurd he hd
  case st fs => obtain ⟨fields, hu, _⟩ := st_fields hdesc; simp [isAgg, run_underlying hu, isAggD]
  case ptr => obtain ⟨e, hu⟩ := (hdesc : ∃ e, _); simp [isAgg, run_underlying hu, isAggD]
  case fn => obtain ⟨x, y, z, hu⟩ := (hdesc : ∃ x y z, _); simp [isAgg, run_underlying hu, isAggD]
  case map => obtain ⟨x, y, hu⟩ := (hdesc : ∃ x y, _); simp [isAgg, run_underlying hu, isAggD]
  all_goals simp [isAgg, run_underlying hdesc, isAggD]

theorem sizeOf_run {t : TypeId} {r : TyR} (h : tyOk P t r) (hd : r.d ≠ .other) (w : World) : (sizeOf t).run P w = .ok r.size w := by
  obtain ⟨i, z, hi, hs, _⟩ := tyOk_info' h hd
  simp [sizeOf, typeInfo, hi, hs]

theorem QOk.ofStep {st' : St} {s : SV} {ρ' : Nat → Value} (hK : K st' s) (hs : Step st st' ρ ρ' S w0)
    (h : holds st.bs L → svOk st'.ch s ∧ ∀ w, CC w0 w → (execOp a.eval o).run P w = .ok (.value (den ρ' s)) w) : QOk P st L o K ρ S w0 a :=
  ⟨st', s, ρ', hK, hs.n, hs.env, hs.bs, hs.chx, hs.old, hs.mem, hs.own, fun hL => ⟨(h hL).1, fun w hw => quiet_of_run ((h hL).2 w hw)⟩, fun _ hL => (h hL).2⟩

theorem cell_CC {w : World} (h : CC w0 w) {b off : Nat} (hb : b < w0.heap.size) : w.cell? ⟨b, off, none⟩ = w0.cell? ⟨b, off, none⟩ := Below.cell h hb

theorem svOkL_get {ch : List Chunk} : ∀ (l : List SV) (i : Nat) (s : SV), svOkL ch l → l[i]? = some s → svOk ch s
  | [], i, s, _, h => by simp at h
  | x :: r, 0, s, hs, h => by simp at h; subst h; exact hs.1
  | x :: r, i + 1, s, hs, h => svOkL_get r i s hs.2 (by simpa using h)
theorem svOkL_drop {ch : List Chunk} : ∀ (l : List SV) (n : Nat), svOkL ch l → svOkL ch (l.drop n)
  | l, 0, h => by simpa using h
  | [], n + 1, _ => by simp [svOkL]
  | x :: r, n + 1, h => by simpa using svOkL_drop r n h.2
theorem svOkL_take {ch : List Chunk} : ∀ (l : List SV) (n : Nat), svOkL ch l → svOkL ch (l.take n)
  | l, 0, h => by simp [svOkL]
  | [], n + 1, _ => by simp [svOkL]
  | x :: r, n + 1, h => by simp only [List.take_succ_cons, svOkL]; exact ⟨h.1, svOkL_take r n h.2⟩
theorem denL_eq (ρ : Nat → Value) : ∀ l, denL ρ l = l.map (den ρ)
  | [] => rfl
  | s :: r => by simp only [denL, List.map_cons, denL_eq ρ r]

/-- a load out of data that lie at an address -/
theorem loadD_sound {t : TypeId} {x : Operand} {off : Nat} {ds : List DV} (hcl : closed st.bs L) (htt : TTok P tt) (ho : o.op = .load t x) (hm : MemOk st ρ S w0) (hno : (ttGet tt t).d ≠ .other)
    (look : holds st.bs L → ∃ b oo, b < w0.heap.size ∧ a.eval x = .pointer (some ⟨b, oo + off, none⟩) ∧ ∀ (j : Nat) d, ds[j]? = some d → ∃ y, w0.cell? ⟨b, oo + j, none⟩ = some y ∧ DRep S w0 d y)
    (h : loadD st L (ttGet tt t) off ds K) : QOk P st L o K ρ S w0 a := by
  have hty := htt t
  unfold loadD at h
  split at h
  · rename_i hag
    have fin : ∀ d, ds[off]? = some d → holds st.bs L → ∃ y, DRep S w0 d y ∧ ∀ w, CC w0 w → (execOp a.eval o).run P w = .ok (.value y) w := by
      intro d hget hL
      obtain ⟨b, oo, hb, hev, hc⟩ := look hL
      obtain ⟨y, hy, hr⟩ := hc off d hget
      refine ⟨y, hr, fun w hw => ?_⟩
      have := run_loadVar_scalar (P := P) (t := t) (ad := ⟨b, oo + off, none⟩) (w := w) (v := y) (by rw [isAgg_run hty hno, hag]) (by rw [cell_CC hw hb]; exact hy)
      simp [execOp, ho, hev, Instr.loadAt, Instr.sureAddr, this]
    split at h
    · rename_i y _ hdr
      rw [dropL_eq] at hdr
      have hget : ds[off]? = some (.v y) := by have := congrArg (·[0]?) hdr; simpa using this
      refine QOk.simple hm h fun hL => ⟨by simp [svOk], fun w hw => ?_⟩
      obtain ⟨y', hr, hrun⟩ := fin _ hget hL
      cases hr
      exact hrun w hw
    · rename_i α inh sz' enc xs _ hdr
      rw [dropL_eq] at hdr
      have hget : ds[off]? = some (.sl α inh sz' enc xs) := by have := congrArg (·[0]?) hdr; simpa using this
      by_cases hL : holds st.bs L
      · obtain ⟨y, hr, hrun⟩ := fin _ hget hL
        obtain ⟨st', hK, hs, hlt⟩ := newCh_sound (v := y) hm hcl (fun _ => hr) h
        exact QOk.ofStep hK hs fun _ => ⟨by simpa [svOk] using hlt, fun w hw => by simp only [den, upd_same]; exact hrun w hw⟩
      · obtain ⟨st', hK, hs, hlt⟩ := newCh_sound (v := undef) hm hcl (fun h => absurd h hL) h
        exact QOk.ofStep hK hs fun h => absurd h hL
    · rename_i cells _ hdr
      rw [dropL_eq] at hdr
      have hget : ds[off]? = some (.ptr cells) := by have := congrArg (·[0]?) hdr; simpa using this
      by_cases hL : holds st.bs L
      · obtain ⟨y, hr, hrun⟩ := fin _ hget hL
        obtain ⟨st', hK, hs, hlt⟩ := newRp_sound (v := y) hm hcl (fun _ => hr) h
        refine QOk.ofStep hK hs fun _ => ⟨by simpa [svOk] using hlt, fun w hw => ?_⟩
        cases hr with
        | ptr b o cell _ _ _ => simp only [den, upd_same]; exact hrun w hw
      · obtain ⟨st', hK, hs, hlt⟩ := newRp_sound (v := undef) hm hcl (fun h => absurd h hL) h
        exact QOk.ofStep hK hs fun h => absurd h hL
    · exact h.elim
  · rename_i hag
    split at h
    · rename_i hle
      have hle := Nat.le_of_ble_eq_true hle
      by_cases hL : holds st.bs L
      · obtain ⟨b, oo, hb, hev, hc⟩ := look hL
        let vals : List Value := (List.range (ttGet tt t).size).map fun j => ((w0.cell? ⟨b, oo + (off + j), none⟩).getD undef)
        obtain ⟨st', l, ρ', hK, hs, hl⟩ := dvs_sound (L := L) _ st _ ρ vals hm hcl (fun _ => by
          refine ⟨by simp only [vals, takeL_eq, dropL_eq, List.length_map, List.length_range, List.length_take, List.length_drop]; omega, fun j d v hd hv => ?_⟩
          simp only [takeL_eq, dropL_eq, List.getElem?_take, List.getElem?_drop] at hd
          split at hd
          · obtain ⟨y, hy, hr⟩ := hc _ d hd
            simp only [vals, List.getElem?_map] at hv
            rw [List.getElem?_range (by assumption)] at hv
            simp only [Option.map_some, Option.some.injEq, hy, Option.getD_some] at hv
            exact hv ▸ hr
          · simp at hd) h
        refine QOk.ofStep hK hs fun _ => ?_
        obtain ⟨h5, h6⟩ := hl hL
        refine ⟨by simpa [svOk] using h5, fun w hw => ?_⟩
        have := run_loadVar_agg (P := P) (t := t) (ad := ⟨b, oo + off, none⟩) (w := w) (vs := vals) (by rw [isAgg_run hty hno, hag]) (by rw [sizeOf_run hty hno]; simp [vals]) (fun j v hv => by
          simp only [vals, List.getElem?_map] at hv
          by_cases hj : j < (ttGet tt t).size
          · rw [List.getElem?_range hj] at hv
            simp only [Option.map_some, Option.some.injEq] at hv
            obtain ⟨y, hy, _⟩ := hc (off + j) (ds[off + j]'(by omega)) (by simp)
            rw [Addr.add_lit, cell_CC hw hb, Nat.add_assoc, hy]
            rw [hy] at hv
            simpa using hv
          · rw [List.getElem?_eq_none (by simpa using hj)] at hv
            simp at hv)
        simp [execOp, ho, hev, Instr.loadAt, Instr.sureAddr, this, den, h6]
      · obtain ⟨st', l, ρ', hK, hs, hl⟩ := dvs_sound (L := L) _ st _ ρ [] hm hcl (fun h => absurd h hL) h
        exact QOk.ofStep hK hs fun h => absurd h hL
    · exact h.elim

theorem q_load {t : TypeId} {x : Operand} (hcl : closed st.bs L) (htt : TTok P tt) (ho : o.op = .load t x) (hm : MemOk st ρ S w0) (he : EnvOk ops st ρ a)
    (h : match getV st L x with
    | some s => loadK tt st L t s K
    | none => False) : QOk P st L o K ρ S w0 a := by
  cases hx : getV st L x with
  | none => simp [hx] at h
  | some s =>
    simp only [hx, loadK] at h
    split at h
    case h_2 => exact h.elim
    rename_i ha hkn
    have hno : (ttGet tt t).d ≠ .other := by intro e; rw [e] at hkn; simp [knownD] at hkn
    have hty := htt t
    split at h
    · -- a box
      rename_i id off
      simp only [addrOk] at ha
      split at h
      · rename_i tt' cells hc
        have key : ∀ (s' : SV) , (holds st.bs L → ∀ b, b < w0.heap.size → ρ id = .pointer (some ⟨b, 0, none⟩) → w0.heap[b]? = some (.cells (denL ρ cells).toArray tt' (0, 0)) → svOkL st.ch cells → svOk st.ch s' ∧ ∀ w, CC w0 w → (loadVar t ⟨b, off, none⟩).run P w = .ok (den ρ s') w) →
            K st s' → QOk P st L o K ρ S w0 a := by
          intro s' hrun hK
          refine QOk.simple hm hK fun hL => ?_
          obtain ⟨h1, h2⟩ := getV_sound he hL hx
          simp only [svOk] at h2
          obtain ⟨b, hb, hg⟩ := (hc ▸ hm.ok id h2 : ChunkOk _ _ _ _ (.bx tt' cells) _)
          obtain ⟨h3, h4⟩ := hrun hL b (Array.getElem?_eq_some_iff.1 hg).1 hb hg (by have := hm.cells id; rw [hc] at this; exact this)
          refine ⟨h3, fun w hw => ?_⟩
          simp only [den, hb, Nat.zero_add] at h1
          simp [execOp, ho, h1, Instr.loadAt, Instr.sureAddr, h4 w hw]
        split at h
        · rename_i hag
          split at h
          · rename_i s' _ hdr
            refine key s' (fun _ b hb _ hg hok => ?_) h
            rw [dropL_eq] at hdr
            have hget : cells[off]? = some s' := by
              have := congrArg (·[0]?) hdr
              simpa using this
            refine ⟨svOkL_get cells off s' hok hget, fun w hw => ?_⟩
            refine run_loadVar_scalar (by rw [isAgg_run hty hno, hag]) ?_
            rw [cell_CC hw hb, cell_of_row w0 b off _ tt' (0, 0) hg, denL_eq]
            simp [hget]
          · exact h.elim
        · rename_i hag
          split at h
          · rename_i hle
            have hle := Nat.le_of_ble_eq_true hle
            refine key _ (fun _ b hb _ hg hok => ?_) h
            refine ⟨by simp only [svOk, takeL_eq, dropL_eq]; exact svOkL_take _ _ (svOkL_drop _ _ hok), fun w hw => ?_⟩
            simp only [den]
            refine run_loadVar_agg (by rw [isAgg_run hty hno, hag]) (by rw [sizeOf_run hty hno]; simp only [denL_eq, takeL_eq, dropL_eq, List.length_map, List.length_take, List.length_drop]; congr 1; omega) fun j v hv => ?_
            rw [Addr.add_lit, cell_CC hw hb, cell_of_row w0 b _ _ tt' (0, 0) hg]
            simp only [denL_eq, takeL_eq, dropL_eq, List.getElem?_map, List.getElem?_take, List.getElem?_drop] at hv ⊢
            simp only [List.getElem?_toArray, List.getElem?_map]
            split at hv
            · exact hv
            · simp at hv
          · exact h.elim
      · rename_i L' ds hc
        refine loadD_sound hcl htt ho hm hno (fun hL => ?_) h
        obtain ⟨h1, h2⟩ := getV_sound he hL hx
        simp only [svOk] at h2
        split at ha
        case h_2 => exact absurd ha (by simp)
        rename_i _ hcd
        have hok := hm.ok id h2
        rw [hc] at hok hcd
        have hd := hok (subL_sound hcd hL)
        simp only [den] at h1
        generalize hv : ρ id = v at hd h1
        cases hd with
        | ptr b oo cell hb hcell hrep => exact ⟨b, oo, hm.lt b hb, h1, fun j d hd => ⟨_, hcell j d hd, hrep j d hd⟩⟩
      · exact h.elim
    · -- an element
      rename_i id sz i off
      simp only [addrOk] at ha
      split at ha
      case h_2 => exact absurd ha (by simp)
      rename_i n hn hcd
      split at h
      case h_2 =>
        split at h
        case h_2 => exact h.elim
        rename_i tt' n' sz' cells hc
        have key : ∀ (s' : SV) , (holds st.bs L → ∀ b, b < w0.heap.size → w0.heap[b]? = some (.cells (denL ρ cells).toArray tt' (0, 0)) → svOkL st.ch cells → svOk st.ch s' ∧ ∀ w, CC w0 w → (loadVar t ⟨b, i * sz + off, none⟩).run P w = .ok (den ρ s') w) →
            K st s' → QOk P st L o K ρ S w0 a := by
          intro s' hrun hK
          refine QOk.simple hm hK fun hL => ?_
          obtain ⟨h1, h2⟩ := getV_sound he hL hx
          simp only [svOk] at h2
          obtain ⟨b, hb, hg⟩ := (hc ▸ hm.ok id h2.1 : ChunkOk _ _ _ _ (.raw tt' n' sz' cells) _)
          obtain ⟨h3, h4⟩ := hrun hL b (Array.getElem?_eq_some_iff.1 hg).1 hg (by have := hm.cells id; rw [hc] at this; exact this)
          refine ⟨h3, fun w hw => ?_⟩
          simp only [den, hb, Nat.zero_add] at h1
          simp [execOp, ho, h1, Instr.loadAt, Instr.sureAddr, h4 w hw]
        split at h
        · rename_i hag
          split at h
          · rename_i s' _ hdr
            refine key s' (fun _ b hb hg hok => ?_) h
            rw [dropL_eq] at hdr
            have hget : cells[i * sz + off]? = some s' := by
              have := congrArg (·[0]?) hdr
              simpa using this
            refine ⟨svOkL_get cells _ s' hok hget, fun w hw => ?_⟩
            refine run_loadVar_scalar (by rw [isAgg_run hty hno, hag]) ?_
            rw [cell_CC hw hb, cell_of_row w0 b _ _ tt' (0, 0) hg, denL_eq]
            simp [hget]
          · exact h.elim
        · rename_i hag
          split at h
          · rename_i hle
            have hle := Nat.le_of_ble_eq_true hle
            refine key _ (fun _ b hb hg hok => ?_) h
            refine ⟨by simp only [svOk, takeL_eq, dropL_eq]; exact svOkL_take _ _ (svOkL_drop _ _ hok), fun w hw => ?_⟩
            simp only [den]
            refine run_loadVar_agg (by rw [isAgg_run hty hno, hag]) (by rw [sizeOf_run hty hno]; simp only [denL_eq, takeL_eq, dropL_eq, List.length_map, List.length_take, List.length_drop]; congr 1; omega) fun j v hv => ?_
            rw [Addr.add_lit, cell_CC hw hb, cell_of_row w0 b _ _ tt' (0, 0) hg]
            simp only [denL_eq, takeL_eq, dropL_eq, List.getElem?_map, List.getElem?_take, List.getElem?_drop] at hv ⊢
            simp only [List.getElem?_toArray, List.getElem?_map]
            split at hv
            · exact hv
            · simp at hv
          · exact h.elim
        · exact h.elim
      rename_i ds hds
      refine loadD_sound hcl htt ho hm hno (fun hL => ?_) h
      obtain ⟨h1, h2⟩ := getV_sound he hL hx
      simp only [svOk] at h2
      obtain ⟨b, oo, l, cc, hv, hb, hc⟩ := elem_sound (hm.ok id h2.1) hm.lt hds hn hcd hL (h2.2 n hn).1
      refine ⟨b, oo + i * sz, hb, ?_, hc⟩
      rw [h1]
      simp only [den, hv]
    · -- a global variable
      rename_i g off
      split at h
      · rename_i ds hds
        refine loadD_sound hcl htt ho hm hno (fun hL => ?_) h
        have h1 := (getV_sound he hL hx).1
        have hr := hm.glb hds
        cases hr with
        | ptr b oo cell hb hcell hrep => exact ⟨g, 0, hm.lt g hb, by rw [h1]; simp [den], fun j d hd => ⟨_, hcell j d hd, hrep j d hd⟩⟩
      · exact h.elim
    · exact h.elim
end
end Go.Eng

/-! part Snd4 -/
namespace Go.Eng
open Go.RowKit

section
variable {P : Program} {tt : TT} {ops : Array Oper} {st : St} {L : List (Nat × Bool)} {o : Oper} {K : St → SV → Prop} {ρ : Nat → Value} {S : Nat → Prop} {w0 : World} {a : Act}

theorem q_pick {c : Nat} {x y : Operand} (ho : o.op = .pick (.tmp c) x y) (hm : MemOk st ρ S w0) (he : EnvOk ops st ρ a)
    (h : match findB st.bs c with
    | none => (match getV st L (.tmp c), getV st L x, getV st L y with
      | some (.v (.bool t)), some (.v (.bool u)), some (.v (.bool v)) => K st (.v (.bool (bif t then u else v)))
      | _, _, _ => False)
    | some ⟨j, _, Lc, b⟩ => match subL Lc L with
      | false => False
      | true => match getV st ((j, true) :: Lc) x, getV st ((j, false) :: Lc) y with
        | some (.v (.bool u)), some (.v (.bool v)) => match constB x, constB y with
          | some true, _ => K st (.v (.bool (b || v)))
          | _, some false => K st (.v (.bool (b && u)))
          | _, _ => K st (.v (.bool (bif b then u else v)))
        | _, _ => False) : QOk P st L o K ρ S w0 a := by
  cases hf : findB st.bs c with
  | none =>
    simp only [hf] at h
    split at h
    · rename_i t u v hc hu hv
      refine QOk.simple hm h fun hL => ⟨by simp [svOk], fun w _ => ?_⟩
      have h1 := (getV_sound he hL hc).1
      have h2 := (getV_sound he hL hu).1
      have h3 := (getV_sound he hL hv).1
      simp only [den] at h1 h2 h3
      cases t <;> simp [execOp, ho, h1, h2, h3, asBool, den]
    · exact h.elim
  | some e =>
    obtain ⟨j, sl, Lc, b⟩ := e
    simp only [hf] at h
    obtain ⟨hmem, hsl⟩ := findB_mem hf
    obtain ⟨hlook, _, htmp⟩ := he.bent _ hmem
    simp only at hsl hlook htmp
    subst hsl
    split at h
    · exact h.elim
    rename_i hsub
    split at h
    · rename_i u v hu hv
      have key : ∀ r : Bool, r = (bif b then u else v) → K st (.v (.bool r)) → QOk P st L o K ρ S w0 a := by
        intro r hr hK
        refine QOk.simple hm hK fun hL => ⟨by simp [svOk], fun w _ => ?_⟩
        have hLc := subL_sound hsub hL
        rw [if_pos hLc] at htmp
        have hc : a.eval (.tmp sl) = .bool b := by simp [Act.eval, Array.getD_eq_getD_getElem?, htmp]
        have hval : (if b = true then a.eval x else a.eval y) = .bool r := by
          subst hr
          cases b with
          | true =>
            have := (getV_sound he (L := (j, true) :: Lc) ⟨by simp [hlook], hLc⟩ hu).1
            simpa [den] using this
          | false =>
            have := (getV_sound he (L := (j, false) :: Lc) ⟨by simp [hlook], hLc⟩ hv).1
            simpa [den] using this
        simp only [execOp, ho, hc, asBool, den]
        simp only [Sem.run_bind, Sem.run_pure, Result.andThen_ok, hval]
      split at h
      · rename_i hcx
        refine key _ ?_ h
        have : u = true := by
          cases x <;> simp [constB] at hcx
          rename_i vv; cases vv <;> simp at hcx
          subst hcx; simp [getV] at hu; exact hu
        subst this; cases b <;> simp
      · rename_i hcy _
        refine key _ ?_ h
        have : v = false := by
          cases y <;> simp [constB] at hcy
          rename_i vv; cases vv <;> simp at hcy
          subst hcy; simp [getV] at hv; exact hv
        subst this; cases b <;> simp
      · exact key _ rfl h
    · exact h.elim

theorem q_builtin {bi : Builtin} {args : Array Operand} {ts : Array TypeId} (htt : TTok P tt) (ho : o.op = .call ⟨.builtin bi, args, ts⟩) (hm : MemOk st ρ S w0) (he : EnvOk ops st ρ a)
    (h : qbuiltin tt st L bi args.toList ts.toList K) : QOk P st L o K ρ S w0 a := by
  unfold qbuiltin at h
  split at h
  · split at h
    · rename_i x t hxs hts
      have e1 : args = #[x] := by apply Array.toList_inj.1; simpa using hxs
      have e2 : ts = #[t] := by apply Array.toList_inj.1; simpa using hts
      subst e1 e2
      split at h
      · rename_i id hx
        split at h
        · rename_i e len hd hlen hcd
          refine QOk.simple hm h fun hL => ⟨by simp [svOk], fun w _ => ?_⟩
          obtain ⟨h1, h2⟩ := getV_sound he hL hx
          simp only [svOk] at h2
          have hok := hm.ok id h2
          have hdesc := tyOk_desc (htt t) (by rw [hd]; simp)
          rw [hd] at hdesc
          obtain ⟨ad, l, cc, hv⟩ := chunk_isSlice hok hlen hcd hL
          have hl := chunk_len hok hlen hcd hL hv
          subst hl
          simp only [den, hv] at h1 ⊢
          simp [execOp, ho, h1, resolve, invoke, builtin, Builtin.len_, run_underlying hdesc, goInt]
        · exact h.elim
      · rename_i s hx
        split at h
        · rename_i hd
          refine QOk.simple hm h fun hL => ⟨by simp [svOk], fun w _ => ?_⟩
          obtain ⟨h1, h2⟩ := getV_sound he hL hx
          have hdesc := tyOk_desc (htt t) (by rw [hd]; simp)
          rw [hd] at hdesc
          simp only [den] at h1 ⊢
          simp [execOp, ho, h1, resolve, invoke, builtin, Builtin.len_, run_underlying hdesc, goInt]
        · exact h.elim
      · rename_i hx
        split at h
        · rename_i hd
          refine QOk.simple hm h fun hL => ⟨by simp [svOk], fun w _ => ?_⟩
          obtain ⟨h1, h2⟩ := getV_sound he hL hx
          have hdesc := tyOk_desc (htt t) (by rw [hd]; simp)
          rw [hd] at hdesc
          simp only [den] at h1 ⊢
          simp [execOp, ho, h1, resolve, invoke, builtin, Builtin.len_, run_underlying hdesc, goInt]
        · exact h.elim
      · rename_i hx
        split at h
        · rename_i hd
          refine QOk.simple hm h fun hL => ⟨by simp [svOk], fun w _ => ?_⟩
          obtain ⟨h1, h2⟩ := getV_sound he hL hx
          have hdesc := tyOk_desc (htt t) (by rw [hd]; simp)
          rw [hd] at hdesc
          simp only [den] at h1 ⊢
          simp [execOp, ho, h1, resolve, invoke, builtin, Builtin.len_, run_underlying hdesc, goInt]
        · exact h.elim
      · exact h.elim
    · exact h.elim
  · split at h
    · rename_i x y hxs
      have e1 : args = #[x, y] := by apply Array.toList_inj.1; simpa using hxs
      subst e1
      split at h
      · rename_i k m _ n hx hy
        refine QOk.simple hm h fun hL => ⟨by simp [svOk], fun w _ => ?_⟩
        have h1 := (getV_sound he hL hx).1
        have h2 := (getV_sound he hL hy).1
        simp only [den] at h1 h2 ⊢
        have : min m n = if n < m then n else m := by rw [Int.min_def]; split <;> split <;> omega
        simp [execOp, ho, h1, h2, resolve, invoke, builtin, Builtin.min_, Builtin.min2, this]
      · exact h.elim
    · exact h.elim
  · split at h
    · rename_i x y hxs
      have e1 : args = #[x, y] := by apply Array.toList_inj.1; simpa using hxs
      subst e1
      split at h
      · rename_i k m _ n hx hy
        refine QOk.simple hm h fun hL => ⟨by simp [svOk], fun w _ => ?_⟩
        have h1 := (getV_sound he hL hx).1
        have h2 := (getV_sound he hL hy).1
        simp only [den] at h1 h2 ⊢
        have : max m n = if n > m then n else m := by rw [Int.max_def]; split <;> split <;> omega
        simp [execOp, ho, h1, h2, resolve, invoke, builtin, Builtin.max_, Builtin.max2, this]
      · exact h.elim
    · exact h.elim
  · exact h.elim

theorem q_extract {x : Operand} {i : Nat} (ho : o.op = .extract x i) (hm : MemOk st ρ S w0) (he : EnvOk ops st ρ a)
    (h : match getV st L x with
    | some (.tup l) => (match dropL l i with | s :: _ => K st s | [] => False)
    | some (.v (.tuple vs)) => (match dropL vs.toList i with | v :: _ => K st (.v v) | [] => False)
    | _ => False) : QOk P st L o K ρ S w0 a := by
  split at h
  · rename_i l hx
    split at h
    · rename_i s _ hd
      refine QOk.simple hm h fun hL => ?_
      obtain ⟨h1, h2⟩ := getV_sound he hL hx
      simp only [svOk] at h2
      rw [dropL_eq] at hd
      have hget : l[i]? = some s := by have := congrArg (·[0]?) hd; simpa using this
      refine ⟨svOkL_get l i s h2 hget, fun w _ => ?_⟩
      simp only [den, denL_eq] at h1
      simp [execOp, ho, h1, Instr.extract, hget]
    · exact h.elim
  · rename_i vs hx
    split at h
    · rename_i v _ hd
      refine QOk.simple hm h fun hL => ⟨by simp [svOk], fun w _ => ?_⟩
      obtain ⟨h1, h2⟩ := getV_sound he hL hx
      rw [dropL_eq] at hd
      have hget : vs.toList[i]? = some v := by have := congrArg (·[0]?) hd; simpa using this
      simp only [den] at h1 ⊢
      have : vs[i]? = some v := by simpa using hget
      simp [execOp, ho, h1, Instr.extract, this]
    · exact h.elim
  · exact h.elim

theorem known_run {t : TypeId} {r : TyR} (h : tyOk P t r) (hk : knownD r.d = true) (w : World) : ∃ d, (underlying t).run P w = .ok d w := by
  have hno : r.d ≠ .other := by intro e; rw [e] at hk; simp [knownD] at hk
  have hdesc := tyOk_desc h hno
  cases he : r.d <;> simp only [he] at hdesc
  case other => exact absurd he hno
  case st fs => obtain ⟨fields, hu, _⟩ := st_fields hdesc; exact ⟨_, run_underlying hu w⟩
  case ptr => obtain ⟨e, hu⟩ := (hdesc : ∃ e, _); exact ⟨_, run_underlying hu w⟩
  case fn => obtain ⟨x, y, z, hu⟩ := (hdesc : ∃ x y z, _); exact ⟨_, run_underlying hu w⟩
  case map => obtain ⟨x, y, hu⟩ := (hdesc : ∃ x y, _); exact ⟨_, run_underlying hu w⟩
  all_goals exact ⟨_, run_underlying hdesc w⟩

theorem q_convert {t dt : TypeId} {x : Operand} (htt : TTok P tt) (ho : o.op = .convert t dt x) (hm : MemOk st ρ S w0) (he : EnvOk ops st ρ a)
    (h : match knownD (ttGet tt t).d, (ttGet tt dt).d, getV st L x with
    | true, .int k, some (.v (.int _ n)) => K st (.v (.int k (k.wrap n)))
    | true, .str, some (.v (.string s)) => K st (.v (.string s))
    | _, _, _ => pureK P st L (.convert t dt x) K) : QOk P st L o K ρ S w0 a := by
  split at h
  · rename_i k k' n hk hd hx
    refine QOk.simple hm h fun hL => ⟨by simp [svOk], fun w _ => ?_⟩
    obtain ⟨h1, h2⟩ := getV_sound he hL hx
    have hdesc := tyOk_desc (htt dt) (by rw [hd]; simp)
    rw [hd] at hdesc
    obtain ⟨d, hu⟩ := known_run (htt t) hk w
    simp only [den] at h1 ⊢
    simp [execOp, ho, h1, convert, hu, run_underlying hdesc, Conv.intToInt]
  · rename_i s hk hd hx
    refine QOk.simple hm h fun hL => ⟨by simp [svOk], fun w _ => ?_⟩
    obtain ⟨h1, h2⟩ := getV_sound he hL hx
    have hdesc := tyOk_desc (htt dt) (by rw [hd]; simp)
    rw [hd] at hdesc
    obtain ⟨d, hu⟩ := known_run (htt t) hk w
    simp only [den] at h1 ⊢
    simp [execOp, ho, h1, convert, hu, run_underlying hdesc]
  · exact q_pure ho hm he h

theorem part_run {t : TypeId} {r : TyR} (h : tyOk P t r) (hk : knownD r.d = true) (l : List SV) (off : Nat) (s : SV)
    (hs : (isAggD r.d = false ∧ dropL l off = s :: dropL l (off + 1)) ∨ (isAggD r.d = true ∧ off + r.size ≤ l.length ∧ s = .agg (takeL (dropL l off) r.size))) (w : World) :
    (part t (denL ρ l).toArray off).run P w = .ok (den ρ s) w := by
  have hno : r.d ≠ .other := by intro e; rw [e] at hk; simp [knownD] at hk
  rcases hs with ⟨ha, hd⟩ | ⟨ha, hle, rfl⟩
  · rw [dropL_eq] at hd
    have hget : l[off]? = some s := by have := congrArg (·[0]?) hd; simpa using this
    simp [part, isAgg_run h hno, ha, denL_eq, hget]
  · simp only [part, Sem.run_bind, isAgg_run h hno, ha, Result.andThen_ok, if_true, sizeOf_run h hno, Sem.run_pure, den, denL_eq, takeL_eq, dropL_eq]
    simp only [List.extract_toArray, List.map_take, List.map_drop, Nat.add_sub_cancel_left, List.extract_eq_take_drop]

theorem q_field {t : TypeId} {x : Operand} {f : Nat} (htt : TTok P tt) (ho : o.op = .field t x f) (hm : MemOk st ρ S w0) (he : EnvOk ops st ρ a)
    (h : match (ttGet tt t).d with
    | .st fs => match fldGet fs f with
      | some (off, ft) => match knownD (ttGet tt ft).d, getV st L x with
        | true, some (.agg l) => (match isAggD (ttGet tt ft).d with
          | false => match dropL l off with | s :: _ => K st s | [] => False
          | true => match Nat.ble (off + (ttGet tt ft).size) l.length with | true => K st (.agg (takeL (dropL l off) (ttGet tt ft).size)) | false => False)
        | _, _ => False
      | none => False
    | _ => False) : QOk P st L o K ρ S w0 a := by
  split at h
  · rename_i fs hd
    split at h
    · rename_i off ft hf
      split at h
      · rename_i l hkn hx
        have hdesc := tyOk_desc (htt t) (by rw [hd]; simp)
        rw [hd] at hdesc
        obtain ⟨fields, hu, hfs⟩ := st_fields hdesc
        obtain ⟨fd, hfd, e1, e2⟩ := hfs f off ft hf
        have fin : ∀ s, K st s → (svOkL st.ch l → svOk st.ch s) → ((isAggD (ttGet tt ft).d = false ∧ dropL l off = s :: dropL l (off + 1)) ∨ (isAggD (ttGet tt ft).d = true ∧ off + (ttGet tt ft).size ≤ l.length ∧ s = .agg (takeL (dropL l off) (ttGet tt ft).size))) → QOk P st L o K ρ S w0 a := by
          intro s hK hsv hs
          refine QOk.simple hm hK fun hL => ?_
          obtain ⟨h1, h2⟩ := getV_sound he hL hx
          simp only [svOk] at h2
          refine ⟨hsv h2, fun w _ => ?_⟩
          have := part_run (P := P) (ρ := ρ) (htt ft) hkn l off s hs w
          rw [← e1, ← e2] at this
          simp only [den] at h1
          simp [execOp, ho, h1, Instr.field, run_underlying hu, hfd, asAgg, this]
        split at h
        · rename_i ha
          split at h
          · rename_i s r hdr
            refine fin s h (fun h2 => ?_) (.inl ⟨ha, ?_⟩)
            · rw [dropL_eq] at hdr
              exact svOkL_get l off s h2 (by have := congrArg (·[0]?) hdr; simpa using this)
            · rw [dropL_eq] at hdr ⊢
              rw [dropL_eq, ← List.drop_drop, hdr]
              have := congrArg (List.drop 1) hdr
              simp only [List.drop_drop, List.drop_succ_cons, List.drop_zero] at this ⊢
          · exact h.elim
        · rename_i ha
          split at h
          · rename_i hle
            exact fin _ h (fun h2 => by simp only [svOk, takeL_eq, dropL_eq]; exact svOkL_take _ _ (svOkL_drop _ _ h2)) (.inr ⟨ha, Nat.le_of_ble_eq_true hle, rfl⟩)
          · exact h.elim
      · exact h.elim
    · exact h.elim
  · exact h.elim

theorem nth_mid {α : Type} [Inhabited α] (xs : List α) (l h i : Nat) (hi : i < h - l) (hh : h ≤ xs.length) : nth (midL xs l h) i = nth xs (l + i) := by
  unfold midL nth
  rw [List.getD_eq_getElem?_getD, List.getD_eq_getElem?_getD, List.getElem?_take, if_pos hi, List.getElem?_drop]
theorem midL_len {α : Type u} (xs : List α) (l h : Nat) (hh : h ≤ xs.length) : (midL xs l h).length = h - l := by
  unfold midL; simp; omega
def slicedV (ad : Option Addr) (l h m s : Nat) : Value := .slice (if m = l then ad else ad.map (·.add (l * s))) (h - l) (m - l)
theorem DRep.mid {S : Nat → Prop} {w : World} {α : Type} {inh : Inhabited α} {sz : Nat} {enc : α → List DV} {xs : List α} {ad : Option Addr} {len cap : Nat} (h : DRep S w (.sl α inh sz enc xs) (.slice ad len cap)) (l hh : Nat) (h1 : l ≤ hh) (h2 : hh ≤ xs.length) :
    DRep S w (.sl α inh sz enc (midL xs l hh)) (slicedV ad l hh cap sz) := by
  cases h with
  | sl _ _ b o cell hc hne hcell hrep =>
    have hl := midL_len xs l hh h2
    unfold slicedV
    rw [← hl]
    refine .sl _ (cap - l) b (o + l * sz) (fun i j => cell (l + i) j) (by omega) (fun hx => ?_) (fun i j d hi hd => ?_) (fun i j d hi hd => ?_)
    · have hlt : l < hh := by
        rcases Nat.lt_or_ge l hh with hlt | hge
        · exact hlt
        · exact absurd (List.eq_nil_of_length_eq_zero (by omega)) hx
      obtain ⟨e1, e2⟩ := hne (by intro e; rw [e] at h2; simp at h2; omega)
      rw [if_neg (by omega), e1]
      exact ⟨by simp [Addr.add_lit], e2⟩
    · rw [nth_mid xs l hh i (by omega) h2] at hd
      have := hcell (l + i) j d (by omega) hd
      rw [show o + l * sz + i * sz + j = o + (l + i) * sz + j from by rw [Nat.add_mul]; omega]
      exact this
    · rw [nth_mid xs l hh i (by omega) h2] at hd
      exact hrep (l + i) j d (by omega) hd

theorem bndV_sound {d n : Int} {x : Option Operand} (he : EnvOk ops st ρ a) (hL : holds st.bs L) (h : bndV st L d x = some n) : (x = none ∧ n = d) ∨ ∃ y k, x = some y ∧ a.eval y = .int k n := by
  cases x with
  | none => simp only [bndV, Option.some.injEq] at h; exact .inl ⟨rfl, h.symm⟩
  | some y =>
    simp only [bndV] at h
    split at h
    · rename_i k n' hg
      simp only [Option.some.injEq] at h
      subst h
      exact .inr ⟨y, k, rfl, (getV_sound he hL hg).1⟩
    · cases h
theorem bounds_run {P : Program} {lo hi : Option Operand} {l h d : Int} {cap len : Nat} {b : Bool} (hd : d = len) (hlen : len ≤ cap) (he : EnvOk ops st ρ a) (hL : holds st.bs L) (hl : bndV st L 0 lo = some l) (hh : bndV st L d hi = some h) (h0 : 0 ≤ l) (h1 : l ≤ h) (h2 : h ≤ len) (w : World) :
    (Instr.sliceBounds b len cap (lo.map a.eval) (hi.map a.eval) none).run P w = .ok (l.toNat, h.toNat, cap) w := by
  have eh : (h.toNat : Int) = h := Int.toNat_of_nonneg (by omega)
  have e1 : h ≤ (cap : Int) := by omega
  have e2 : (0 : Int) ≤ h := by omega
  have e3 : l ≤ (len : Int) := by omega
  have e4 : l ≤ ((h.toNat : Nat) : Int) := by omega
  rcases bndV_sound he hL hl with ⟨rfl, rfl⟩ | ⟨y, k, rfl, hy⟩ <;> rcases bndV_sound he hL hh with ⟨rfl, hz⟩ | ⟨y', k', rfl, hy'⟩
  · subst hz hd; simp [Instr.sliceBounds]
  · simp [Instr.sliceBounds, hy', Instr.sliceBound, asIntOf, e1, e2]
  · subst hz hd; simp [Instr.sliceBounds, hy, Instr.sliceBound, asIntOf, h0, e3]
  · simp [Instr.sliceBounds, hy, hy', Instr.sliceBound, asIntOf, h0, e1, e2]; omega

theorem slice_run {t e : TypeId} {lo hi : Option Operand} {x : Operand} {l h : Int} {ad : Option Addr} {len cap sz : Nat} (htt : TTok P tt) (ho : o.op = .slice t x lo hi none) (hd : (ttGet tt t).d = .sl e) (hk : knownD (ttGet tt e).d = true) (hsz : sz = (ttGet tt e).size)
    (he : EnvOk ops st ρ a) (hL : holds st.bs L) (hx : a.eval x = .slice ad len cap) (hlen : len ≤ cap) (hl : bndV st L 0 lo = some l) (hh : bndV st L (len : Int) hi = some h) (h0 : 0 ≤ l) (h1 : l ≤ h) (h2 : h ≤ len) (w : World) :
    (execOp a.eval o).run P w = .ok (.value (slicedV ad l.toNat h.toNat cap sz)) w := by
  have hb := bounds_run (P := P) (b := true) rfl hlen he hL hl hh h0 h1 h2 w
  have hdesc := tyOk_desc (htt t) (by rw [hd]; simp)
  rw [hd] at hdesc
  have hdesc : P.underlying t = some (.slice e) := hdesc
  have hno : (ttGet tt e).d ≠ .other := by intro e; rw [e] at hk; simp [knownD] at hk
  obtain ⟨inf, z, hinf, hsize, _⟩ := tyOk_info' (htt e) hno
  subst hsz
  simp [execOp, ho, hx, Instr.sliceAt, Instr.slice, run_underlying hdesc, hb, sizeOf, typeInfo, hinf, hsize, slicedV]

theorem q_slice {t : TypeId} {x : Operand} {lo hi : Option Operand} (hcl : closed st.bs L) (htt : TTok P tt) (ho : o.op = .slice t x lo hi none) (hm : MemOk st ρ S w0) (he : EnvOk ops st ρ a) (h : sliceK tt st L t x lo hi K) : QOk P st L o K ρ S w0 a := by
  unfold sliceK at h
  have core : ∀ (e id : Nat) (α : Type) (inh : Inhabited α) (sz : Nat) (enc : α → List DV) (xs : List α) (l hh : Int), (ttGet tt t).d = .sl e → getV st L x = some (.sl id) → (holds st.bs L → DRep S w0 (.sl α inh sz enc xs) (ρ id)) → bndV st L 0 lo = some l → bndV st L xs.length hi = some hh →
      Nat.beq sz (ttGet tt e).size = true → knownD (ttGet tt e).d = true → (impB st.bs L (0 ≤ l ∧ l ≤ hh ∧ hh ≤ xs.length) ∧ newCh st (rdOr L α inh sz enc (midL xs l.toNat hh.toNat)) (fun st' id => K st' (.sl id))) → QOk P st L o K ρ S w0 a := by
    intro e id α inh sz enc xs l hh hd hx hrep hl hh' hsz hk ⟨hb, h⟩
    by_cases hL : holds st.bs L
    · obtain ⟨h1, _⟩ := getV_sound he hL hx
      simp only [den] at h1
      obtain ⟨b0, b1, b2⟩ := impB_sound hb hL
      have hr := hrep hL
      generalize hv : ρ id = v at hr h1
      cases hr with
      | sl ad c b oo cell hc hne hcell hrp =>
        have hd' : DRep S w0 (.sl α inh sz enc xs) (.slice ad xs.length c) := .sl ad c b oo cell hc hne hcell hrp
        have hm' := DRep.mid hd' l.toNat hh.toNat (by omega) (by omega)
        obtain ⟨st', hK, hs, hlt⟩ := newCh_sound (v := slicedV ad l.toNat hh.toNat c sz) hm hcl (fun _ => hm') h
        exact QOk.ofStep hK hs fun _ => ⟨by simpa [svOk] using hlt, fun w hw => by
          simp only [den, upd_same]
          exact slice_run htt ho hd hk (Nat.eq_of_beq_eq_true hsz) he hL h1 hc hl hh' b0 b1 b2 w⟩
    · obtain ⟨st', hK, hs, hlt⟩ := newCh_sound (v := undef) hm hcl (fun h => absurd h hL) h
      exact QOk.ofStep hK hs fun h => absurd h hL
  split at h
  · rename_i s hd hx
    split at h
    · rename_i l hh hl hh'
      refine QOk.simple hm h.2 fun hL => ⟨by simp [svOk], fun w _ => ?_⟩
      obtain ⟨b0, b1, b2⟩ := impB_sound h.1 hL
      obtain ⟨h1, _⟩ := getV_sound he hL hx
      simp only [den] at h1 ⊢
      have hb := bounds_run (P := P) (b := false) (cap := s.size) rfl (Nat.le_refl _) he hL hl hh' b0 b1 b2 w
      have hdesc := tyOk_desc (htt t) (by rw [hd]; simp)
      rw [hd] at hdesc
      have hdesc : P.underlying t = some .string := hdesc
      simp [execOp, ho, h1, Instr.sliceAt, Instr.slice, run_underlying hdesc, hb]
    · exact h.elim
  · rename_i e id hd hx
    split at h
    · rename_i α inh sz enc xs hc
      split at h
      · rename_i l hh hl hh' hsz hk
        refine core e id α inh sz enc xs l hh hd hx (fun hL => ?_) hl hh' hsz hk h
        have hs := (getV_sound he hL hx).2
        simp only [svOk] at hs
        have := hm.ok id hs
        rw [hc] at this
        exact this
      · exact h.elim
    · rename_i L' α inh sz enc xs hc
      split at h
      · rename_i l hh hsub hl hh' hsz hk
        refine core e id α inh sz enc xs l hh hd hx (fun hL => ?_) hl hh' hsz hk h
        have hs := (getV_sound he hL hx).2
        simp only [svOk] at hs
        have := hm.ok id hs
        rw [hc] at this
        exact this (subL_sound hsub hL)
      · exact h.elim
    · exact h.elim
  · rename_i e hd hx
    split at h
    · rename_i l hh hl hh' hk
      refine QOk.simple hm h.2 fun hL => ⟨by simp [svOk], fun w _ => ?_⟩
      obtain ⟨b0, b1⟩ := impB_sound h.1 hL
      obtain ⟨h1, _⟩ := getV_sound he hL hx
      simp only [den] at h1 ⊢
      subst b0 b1
      have := slice_run (P := P) (ad := none) (len := 0) (cap := 0) (l := 0) (h := 0) htt ho hd hk rfl he hL h1 (Nat.le_refl _) hl hh' (by omega) (by omega) (by omega) w
      rw [this]; rfl
    · exact h.elim
  · rename_i n e id off hd hx
    split at h
    · rename_i ds hc hk
      obtain ⟨α, inh, enc, xs, hn, hsub, hl, h⟩ := h
      by_cases hL : holds st.bs L
      · obtain ⟨h1, hs⟩ := getV_sound he hL hx
        simp only [svOk] at hs
        have hok := hm.ok id hs
        rw [hc] at hok
        have hr := hok trivial
        simp only [den] at h1
        generalize hv : ρ id = v at hr h1
        cases hr with
        | ptr b oo cell hb hcell hrp =>
          simp only at h1
          have hno : (ttGet tt e).d ≠ .other := by intro e; rw [e] at hk; simp [knownD] at hk
          obtain ⟨inf, z, hinf, hsize, _⟩ := tyOk_info' (htt e) hno
          have hat : ∀ (i j : Nat) d, i < xs.length → (enc (nth xs i))[j]? = some d → ds[off + (i * (ttGet tt e).size + j)]? = some d := by
            intro i j d hi hd'
            have hj : j < (ttGet tt e).size := by
              have := hl (nth xs i) (by rw [nth_eq xs i hi]; exact List.getElem_mem _)
              have h6 := (List.getElem?_eq_some_iff.1 hd').1
              omega
            have := flatMap_get enc (ttGet tt e).size xs hl i j hi hj
            rw [← hsub, hd', takeL_eq, dropL_eq] at this
            have hlt : i * (ttGet tt e).size + j < n * (ttGet tt e).size := by
              have h7 : (i + 1) * (ttGet tt e).size ≤ n * (ttGet tt e).size := Nat.mul_le_mul_right _ (by omega)
              rw [Nat.add_mul] at h7; omega
            rw [List.getElem?_take_of_lt hlt, List.getElem?_drop] at this
            exact this
          have hrd : DRep S w0 (.sl α inh (ttGet tt e).size enc xs) (.slice (some ⟨b, oo + off, none⟩) xs.length n) :=
            .sl (some ⟨b, oo + off, none⟩) n b (oo + off) (fun i j => cell (off + (i * (ttGet tt e).size + j))) (by omega) (fun _ => ⟨rfl, hb⟩)
              (fun i j d hi hd' => by
                have := hcell _ d (hat i j d hi hd')
                rw [show oo + off + i * (ttGet tt e).size + j = oo + (off + (i * (ttGet tt e).size + j)) from by omega]
                exact this)
              (fun i j d hi hd' => hrp _ d (hat i j d hi hd'))
          obtain ⟨st', hK, hs', hlt⟩ := newCh_sound (v := .slice (some ⟨b, oo + off, none⟩) xs.length n) hm hcl (fun _ => hrd) h
          have hdesc := tyOk_desc (htt t) (by rw [hd]; simp)
          rw [hd] at hdesc
          have hdesc : P.underlying t = some (.array n e) := hdesc
          refine QOk.ofStep hK hs' fun _ => ⟨by simpa [svOk] using hlt, fun w hw => ?_⟩
          simp only [den, upd_same]
          rw [hn]
          simp [execOp, ho, h1, Instr.sliceAt, Instr.sureAddr, run_underlying hdesc, Instr.sliceBounds, sizeOf, typeInfo, hinf, Addr.add]
      · obtain ⟨st', hK, hs, hlt⟩ := newCh_sound (v := undef) hm hcl (fun h => absurd h hL) h
        exact QOk.ofStep hK hs fun h => absurd h hL
    · exact h.elim
  · exact h.elim

theorem plainL_den (ρ : Nat → Value) : ∀ (l : List SV) (vs : List Value), plainL l = some vs → denL ρ l = vs
  | [], vs, h => by simp [plainL] at h; subst h; rfl
  | .v x :: r, vs, h => by
    simp only [plainL] at h
    split at h
    · rename_i l hl
      cases h
      simp only [denL, den, plainL_den ρ r l hl]
    · cases h
  | .bx _ _ :: _, _, h => by simp [plainL] at h
  | .el _ _ _ _ :: _, _, h => by simp [plainL] at h
  | .sl _ :: _, _, h => by simp [plainL] at h
  | .agg _ :: _, _, h => by simp [plainL] at h
  | .tup _ :: _, _, h => by simp [plainL] at h
  | .fn _ _ :: _, _, h => by simp [plainL] at h
  | .mv _ _ _ :: _, _, h => by simp [plainL] at h
  | .junk :: _, _, h => by simp [plainL] at h
theorem plainV_den (ρ : Nat → Value) {s : SV} {v : Value} (h : plainV s = some v) : den ρ s = v := by
  cases s with
  | v x => simp [plainV] at h; subst h; rfl
  | agg l =>
    simp only [plainV] at h
    split at h
    · rename_i vs hl
      cases h
      simp only [den, plainL_den ρ l vs hl]
    · cases h
  | _ => simp [plainV] at h
theorem q_iface {t : TypeId} {x : Operand} (htt : TTok P tt) (ho : o.op = .makeInterface t x) (hm : MemOk st ρ S w0) (he : EnvOk ops st ρ a)
    (h : match knownD (ttGet tt t).d, getV st L x with
    | true, some s => (match plainV s with | some v => K st (.v (.iface t v)) | none => False)
    | _, _ => False) : QOk P st L o K ρ S w0 a := by
  split at h
  · rename_i s hk hx
    split at h
    rotate_left
    · exact h.elim
    rename_i v hpv
    refine QOk.simple hm h fun hL => ⟨by simp [svOk], fun w _ => ?_⟩
    obtain ⟨h1, _⟩ := getV_sound he hL hx
    rw [plainV_den ρ hpv] at h1
    simp only [den]
    have hty := htt t
    have hd : ∀ d, (ttGet tt t).d = d → descOk P d (P.underlying t) := fun d hd => by
      have := tyOk_desc hty (by intro e; rw [e] at hk; simp [knownD] at hk)
      rw [hd] at this; exact this
    have key : ∀ (u : TypeDesc), P.underlying t = some u → (∀ ms, u ≠ .interface ms) → (execOp a.eval o).run P w = .ok (.value (.iface t v)) w := by
      intro u hu hne
      simp only [execOp, ho, h1, Instr.makeInterface, Sem.run_bind, run_underlying hu, Result.andThen_ok]
      cases u <;> first | rfl | exact absurd rfl (hne _)
    cases hdd : (ttGet tt t).d with
    | other => rw [hdd] at hk; simp [knownD] at hk
    | st fs => obtain ⟨f, p, hu, _⟩ := hd _ hdd; exact key _ hu (by simp)
    | ptr => obtain ⟨e, hu⟩ := hd _ hdd; exact key _ hu (by simp)
    | fn => obtain ⟨x, y, z, hu⟩ := hd _ hdd; exact key _ hu (by simp)
    | map => obtain ⟨x, y, hu⟩ := hd _ hdd; exact key _ hu (by simp)
    | int k => exact key _ (hd _ hdd) (by simp)
    | bool => exact key _ (hd _ hdd) (by simp)
    | str => exact key _ (hd _ hdd) (by simp)
    | sl e => exact key _ (hd _ hdd) (by simp)
    | arr n e => exact key _ (hd _ hdd) (by simp)
  · exact h.elim
end
end Go.Eng

/-! part Snd5 -/
namespace Go.Eng
open Go.RowKit

theorem spliceL_eq : ∀ (cs : List SV) (off : Nat) (ns : List SV), off ≤ cs.length → spliceL cs off ns = cs.take off ++ ns ++ cs.drop (off + ns.length)
  | cs, 0, ns, _ => by
    cases cs with
    | nil => simp [spliceL, dropL_eq]
    | cons a r => simp [spliceL, dropL_eq]
  | [], off + 1, ns, h => by simp at h
  | c :: r, off + 1, ns, h => by
    have := spliceL_eq r off ns (by simpa using h)
    simp only [spliceL, this, List.take_succ_cons, List.cons_append, show off + 1 + ns.length = (off + ns.length) + 1 from by omega, List.drop_succ_cons]

theorem fold_splice : ∀ (ns : List Value) (cs : Array Value) (off k : Nat), off + k + ns.length ≤ cs.size →
    ((ns.zipIdx k).foldl (fun cs p => cs.setIfInBounds (off + p.2) p.1) cs).toList = cs.toList.take (off + k) ++ ns ++ cs.toList.drop (off + k + ns.length)
  | [], cs, off, k, h => by simp
  | n :: ns, cs, off, k, h => by
    simp only [List.length_cons] at h
    simp only [List.zipIdx_cons, List.foldl_cons]
    rw [fold_splice ns _ off (k + 1) (by simp; omega)]
    simp only [Array.toList_setIfInBounds, List.length_cons]
    have hl : off + k < cs.toList.length := by simp; omega
    rw [show off + (k + 1) = off + k + 1 from by omega, List.take_succ_eq_append_getElem (by simpa using hl)]
    simp only [List.getElem_set_self, List.append_assoc, List.cons_append, List.nil_append]
    rw [List.take_set_of_le (by omega), show off + k + (ns.length + 1) = off + k + 1 + ns.length from by omega, List.drop_set_of_lt (by omega)]

section
variable {P : Program} {tt : TT} {ops : Array Oper} {st : St} {L : List (Nat × Bool)} {o : Oper} {K : St → SV → Prop} {ρ : Nat → Value} {S : Nat → Prop} {w0 : World} {a : Act}

theorem cell_sound {w : World} {s : SV} (hm : MemOk st ρ S w) (hL : holds st.bs L) (hs : svOk st.ch s) (h : cellOk st L s = true) : (den ρ s).oneCell' = true := by
  cases s with
  | v x => cases x <;> simp [cellOk] at h <;> rfl
  | sl id =>
    simp only [cellOk] at h
    split at h
    · rename_i n hn hcd
      simp only [svOk] at hs
      obtain ⟨ad, l, cc, hv⟩ := chunk_isSlice (hm.ok id hs) hn hcd hL
      simp only [den, hv]; rfl
    · simp only [svOk] at hs
      have hc := hm.ok id hs
      generalize chGet st.ch id = c at *
      cases c with
      | ob ok =>
        obtain ⟨r, ob, hv, _⟩ := hc
        simp only [den, hv]; rfl
      | _ => exact absurd h (by simp [isOb])
    · exact absurd h (by simp)
  | fn f caps => rfl
  | mv f l1 l2 => rfl
  | agg l => simp [cellOk] at h
  | tup l => simp [cellOk] at h
  | junk => simp [cellOk] at h
  | bx id off =>
    have h : addrOk st L (.bx id off) = true := h
    obtain ⟨b, oo, _, hk⟩ := addr_sound hm h hL hs rfl
    have := (hk 0).1
    rw [addOff_zero h] at this
    rw [this]; rfl
  | el id sz i off =>
    have h : addrOk st L (.el id sz i off) = true := h
    obtain ⟨b, oo, _, hk⟩ := addr_sound hm h hL hs rfl
    have := (hk 0).1
    rw [addOff_zero h] at this
    rw [this]; rfl

theorem cells_one {v : Value} (h : v.oneCell' = true) : v.cells = #[v] := by
  cases v <;> simp [Value.oneCell'] at h <;> rfl

theorem flat_sound {w : World} {s : SV} (hm : MemOk st ρ S w) (hL : holds st.bs L) (hs : svOk st.ch s) (h : flatOk st L s = true) : (den ρ s).cells.toList = denL ρ (cellsOf s) ∧ svOkL st.ch (cellsOf s) := by
  have one : cellOk st L s = true → cellsOf s = [s] → (den ρ s).cells.toList = denL ρ (cellsOf s) ∧ svOkL st.ch (cellsOf s) := by
    intro h1 h2
    rw [h2, cells_one (cell_sound hm hL hs h1)]
    exact ⟨by simp [denL], ⟨hs, trivial⟩⟩
  cases s with
  | v x =>
    cases x with
    | agg cs =>
      refine ⟨?_, ?_⟩
      · simp only [den, Value.cells, cellsOf, denL_eq, List.map_map]
        have : (den ρ ∘ SV.v) = id := by funext x; rfl
        rw [this, List.map_id]
      · simp only [cellsOf]
        induction cs.toList with
        | nil => trivial
        | cons a r ih => exact ⟨by simp [svOk], ih⟩
    | tuple => simp [flatOk] at h
    | _ => exact one rfl rfl
  | agg l => exact ⟨by simp [den, Value.cells, cellsOf], by simpa [svOk, cellsOf] using hs⟩
  | tup l => simp [flatOk, cellOk] at h
  | junk => simp [flatOk, cellOk] at h
  | sl id => exact one h rfl
  | fn f caps => exact one h rfl
  | mv f l1 l2 => exact one h rfl
  | bx id off => exact one h rfl
  | el id sz i off => exact one h rfl

theorem svOkL_append {ch : List Chunk} : ∀ (l m : List SV), svOkL ch l → svOkL ch m → svOkL ch (l ++ m)
  | [], m, _, h => by simpa using h
  | x :: r, m, h, k => by simp only [List.cons_append, svOkL]; exact ⟨h.1, svOkL_append r m h.2 k⟩

theorem fill_sound {w : World} (hm : MemOk st ρ S w) (hL : holds st.bs L) (he : EnvOk ops st ρ a) (fs : Nat → Option (Nat × Nat)) (place : Nat → Option (Nat × Nat)) (hp : ∀ i r, fs i = some r → place i = some r) :
    ∀ (parts : List (Nat × Operand)) (cells : List SV) (out : List SV), svOkL st.ch cells → fillS fs st L cells parts = some out →
      Instr.fill place (denL ρ cells).toArray (parts.map fun p => (p.1, a.eval p.2)) = some (denL ρ out).toArray ∧ svOkL st.ch out
  | [], cells, out, hc, h => by simp only [fillS, Option.some.injEq] at h; subst h; exact ⟨rfl, hc⟩
  | (i, x) :: r, cells, out, hc, h => by
    simp only [fillS] at h
    cases hf : fs i with
    | none => simp [hf] at h
    | some q =>
      obtain ⟨off, size⟩ := q
      simp only [hf] at h
      cases hx : getV st L x with
      | none => simp [hx] at h
      | some s =>
        simp only [hx] at h
        split at h
        · rename_i hfl hsz hle
          obtain ⟨h1, h2⟩ := getV_sound he hL hx
          obtain ⟨h3, h4⟩ := flat_sound hm hL h2 hfl
          have hsz := Nat.eq_of_beq_eq_true hsz
          have hle := Nat.le_of_ble_eq_true hle
          have hlen : (den ρ s).cells.size = size := by
            rw [← Array.length_toList, h3, denL_eq, List.length_map, hsz]
          have hoff : off ≤ cells.length := by omega
          have hsp := spliceL_eq cells off (cellsOf s) hoff
          have hok : svOkL st.ch (spliceL cells off (cellsOf s)) := by
            rw [hsp]; exact svOkL_append _ _ (svOkL_append _ _ (svOkL_take _ _ hc) h4) (svOkL_drop _ _ hc)
          obtain ⟨h5, h6⟩ := fill_sound hm hL he fs place hp r _ out hok h
          refine ⟨?_, h6⟩
          simp only [List.map_cons, Instr.fill, hp i _ hf, h1]
          rw [if_neg (by simp only [Bool.or_eq_true, decide_eq_true_eq, List.size_toArray, denL_eq, List.length_map]; omega)]
          rw [← h5]
          congr 1
          have hfold := fold_splice (denL ρ (cellsOf s)) (denL ρ cells).toArray off 0 (by simp only [denL_eq, List.length_map, List.size_toArray]; omega)
          apply Array.toList_inj.1
          rw [← Array.foldl_toList, Array.toList_zipIdx, h3]
          refine hfold.trans ?_
          simp only [hsp, denL_eq, List.map_append, List.map_take, List.map_drop, List.length_map, Nat.add_zero]
        · simp at h

theorem svOkL_v {ch : List Chunk} : ∀ (l : List Value), svOkL ch (l.map .v)
  | [] => trivial
  | a :: r => ⟨by simp [svOk], svOkL_v r⟩
theorem denL_v (ρ : Nat → Value) : ∀ (l : List Value), denL ρ (l.map .v) = l
  | [] => rfl
  | a :: r => by simp only [List.map_cons, denL, den, denL_v ρ r]

theorem q_build {t : TypeId} {parts : Array (Nat × Operand)} (htt : TTok P tt) (ho : o.op = .build t parts) (hm : MemOk st ρ S w0) (he : EnvOk ops st ρ a)
    (h : match (ttGet tt t).d with
    | .st fs => match fillS (fun i => match fldGet fs i with | some (off, ft) => (match knownD (ttGet tt ft).d with | true => some (off, (ttGet tt ft).size) | false => none) | none => none) st L ((ttGet tt t).zero.map .v) parts.toList with
      | some cells => K st (.agg cells)
      | none => False
    | .arr n e => match knownD (ttGet tt e).d, fillS (fun i => some (i * (ttGet tt e).size, (ttGet tt e).size)) st L ((ttGet tt t).zero.map .v) parts.toList with
      | true, some cells => K st (.agg cells)
      | _, _ => False
    | _ => False) : QOk P st L o K ρ S w0 a := by
  split at h
  · rename_i fs hd
    split at h
    · rename_i cells hf
      have hno : (ttGet tt t).d ≠ .other := by rw [hd]; simp
      have hdesc := tyOk_desc (htt t) hno
      rw [hd] at hdesc
      obtain ⟨fields, hu, hfs⟩ := st_fields hdesc
      obtain ⟨fields', places, hu', hpl, _⟩ := hdesc
      rw [hu] at hu'
      simp only [Option.some.injEq, TypeDesc.struct.injEq] at hu'
      subst hu'
      obtain ⟨inf, z, hi, hs1, hs2, hz, hzc⟩ := tyOk_info' (htt t) hno
      by_cases hL : holds st.bs L
      · obtain ⟨h5, h6⟩ := fill_sound (w := w0) hm hL he _ (fun x => places[x]?) (by
          intro i r hr
          split at hr
          · rename_i off ft hfg
            split at hr
            · rename_i hkn
              simp only [Option.some.injEq] at hr
              subst hr
              obtain ⟨fd, hfd, e1, e2⟩ := hfs i off ft hfg
              obtain ⟨inf', z', hi', hs', _⟩ := tyOk_info' (htt ft) (by intro e; rw [e] at hkn; simp [knownD] at hkn)
              obtain ⟨y, hy, hpy⟩ := mapM_get _ _ _ hpl i fd (by simpa using hfd)
              rw [e2, hi', e1] at hy
              simp only [Option.map_some, Option.some.injEq, hs'] at hy
              subst hy
              exact hpy
            · simp at hr
          · simp at hr) parts.toList _ cells (svOkL_v _) hf
        refine QOk.simple hm h fun _ => ⟨by simpa [svOk] using h6, fun w _ => ?_⟩
        rw [denL_v] at h5
        have hz' : z.cells = (ttGet tt t).zero.toArray := by rw [← hzc]
        have hpp := run_places (P := P) w fields.toList places hpl
        have hbuild : (Instr.build t (parts.map fun p => (p.1, a.eval p.2))).run P w = .ok (.agg (denL ρ cells).toArray) w := by
          simp [Instr.build, run_underlying hu, typeInfo, zeroValue, hi, hz, Array.mapM_eq_mapM_toList, hpp, hz', Array.toList_map, h5]
        have : (execOp a.eval o) = (do pure (.value (← Instr.build t (parts.map fun (i, x) => (i, a.eval x)))) : Sem Next) := by simp [execOp, ho]
        rw [this]
        simp only [Sem.run_bind, hbuild, Result.andThen_ok, Sem.run_pure, den]
      · exact QOk.simple hm h fun hL' => absurd hL' hL
    · exact h.elim
  · rename_i n e hd
    split at h
    · rename_i cells hkn hf
      have hno : (ttGet tt t).d ≠ .other := by rw [hd]; simp
      have hdesc := tyOk_desc (htt t) hno
      rw [hd] at hdesc
      have hu : P.underlying t = some (.array n e) := hdesc
      obtain ⟨inf, z, hi, hs1, hs2, hz, hzc⟩ := tyOk_info' (htt t) hno
      have hsz := sizeOf_run (P := P) (htt e) (by intro e'; rw [e'] at hkn; simp [knownD] at hkn)
      by_cases hL : holds st.bs L
      · obtain ⟨h5, h6⟩ := fill_sound (w := w0) hm hL he _ (fun i => some (i * (ttGet tt e).size, (ttGet tt e).size)) (fun i r hr => hr) parts.toList _ cells (svOkL_v _) hf
        refine QOk.simple hm h fun _ => ⟨by simpa [svOk] using h6, fun w _ => ?_⟩
        rw [denL_v] at h5
        have hz' : z.cells = (ttGet tt t).zero.toArray := by rw [← hzc]
        have hbuild : (Instr.build t (parts.map fun p => (p.1, a.eval p.2))).run P w = .ok (.agg (denL ρ cells).toArray) w := by
          simp [Instr.build, run_underlying hu, typeInfo, zeroValue, hi, hz, hsz, hz', Array.toList_map, h5]
        have : (execOp a.eval o) = (do pure (.value (← Instr.build t (parts.map fun (i, x) => (i, a.eval x)))) : Sem Next) := by simp [execOp, ho]
        rw [this]
        simp only [Sem.run_bind, hbuild, Result.andThen_ok, Sem.run_pure, den]
      · exact QOk.simple hm h fun hL' => absurd hL' hL
    · exact h.elim
  · exact h.elim

theorem getVs_sound (he : EnvOk ops st ρ a) (hL : holds st.bs L) : ∀ (xs : List Operand) (l : List SV), getVs st L xs = some l → xs.map a.eval = denL ρ l ∧ svOkL st.ch l
  | [], l, h => by simp only [getVs, Option.some.injEq] at h; subst h; exact ⟨rfl, trivial⟩
  | x :: r, l, h => by
    simp only [getVs] at h
    cases hx : getV st L x with
    | none => simp [hx] at h
    | some s =>
      cases hr : getVs st L r with
      | none => simp [hx, hr] at h
      | some l' =>
        simp only [hx, hr, Option.some.injEq] at h
        subst h
        obtain ⟨h1, h2⟩ := getV_sound he hL hx
        obtain ⟨h3, h4⟩ := getVs_sound he hL r l' hr
        exact ⟨by simp only [List.map_cons, denL, h1, h3], ⟨h2, h4⟩⟩

structure CfgOk (cf : Cfg) : Prop where
  mix : cf.P.follows .mixedOrders = true
  tt : TTok cf.P cf.tt
  fns : ∀ f, f ∈ cf.fns → ∀ (args : Array Value) (w : World), (callFunc f args).run cf.P w = .ok (.enter f args) w

theorem hasN_mem : ∀ {l : List Nat} {n : Nat}, hasN l n = true → n ∈ l
  | [], n, h => by simp [hasN] at h
  | a :: r, n, h => by
    simp only [hasN] at h
    split at h
    · rename_i hb; have := Nat.eq_of_beq_eq_true hb; subst this; simp
    · exact List.mem_cons_of_mem _ (hasN_mem h)

theorem q_call {cf : Cfg} {f : Nat} {args : Array Operand} {ts : Array TypeId} (hcf : CfgOk cf) (ho : o.op = .call ⟨.value (.func f), args, ts⟩) (hm : MemOk st ρ S w0) (he : EnvOk ops st ρ a)
    (h : match hasN cf.fns f, getVs st L args.toList with
    | true, some l => ∃ r : Value, impB st.bs L (QCall cf.P st f l r) ∧ K st (.v r)
    | false, _ => pureSK cf.P st L (.call ⟨.value (.func f), args, ts⟩) K
    | _, _ => False) : QOk cf.P st L o K ρ S w0 a := by
  split at h
  · rename_i l hf hl
    obtain ⟨r, hq, hK⟩ := h
    refine ⟨st, .v r, ρ, hK, rfl, rfl, rfl, ChExt.refl _, fun _ _ => rfl, hm, fun i h1 h2 => absurd h2 (by omega), fun hL => ⟨by simp [svOk], fun w hw => ?_⟩, fun h => by rw [ho] at h; simp [noCallB] at h⟩
    have hq := impB_sound hq hL
    obtain ⟨h1, _⟩ := getVs_sound he hL _ _ hl
    have hcall := hq ρ S w (hm.below hw)
    have hargs : args.map a.eval = (denL ρ l).toArray := by rw [← h1, ← Array.toList_map]
    unfold Oper.quietAt
    have hrun : (execOp a.eval o).run cf.P w = .ok (.enter f (denL ρ l).toArray) w := by
      have := hcf.fns f (hasN_mem hf) (denL ρ l).toArray w
      simp [execOp, ho, resolve, Act.eval, Deferred.ofValue, invoke, hargs, this]
    rw [hrun]
    exact ⟨rfl, hcall.mono fun e w'' ⟨h2, h3⟩ => ⟨h2, h3⟩⟩
  · exact q_pureS ho hm he h
  · exact h.elim

theorem denL_append (ρ : Nat → Value) (l m : List SV) : denL ρ (l ++ m) = denL ρ l ++ denL ρ m := by simp [denL_eq]

theorem denL_vs (ρ : Nat → Value) : ∀ (l : List Value), denL ρ (l.map .v) = l
  | [] => rfl
  | x :: r => by simp only [List.map_cons, denL, den, denL_vs ρ r]

theorem q_callv {cf : Cfg} {t : Nat} {args : Array Operand} {ts : Array TypeId} (hcf : CfgOk cf) (ho : o.op = .call ⟨.value (.tmp t), args, ts⟩) (hm : MemOk st ρ S w0) (he : EnvOk ops st ρ a)
    (h : match getV st L (.tmp t), getVs st L args.toList with
      | some (.fn f caps), some l => (match hasN cf.fns f with
        | true => ∃ r : Value, impB st.bs L (QCall cf.P st f (l ++ caps) r) ∧ K st (.v r)
        | false => False)
      | some (.mv f first caps), some l => (match hasN cf.fns f with
        | true => ∃ r : Value, impB st.bs L (QCall cf.P st f (first ++ (l ++ caps)) r) ∧ K st (.v r)
        | false => False)
      | some (.v (.func (.func f) first caps)), some l => (match hasN cf.fns f with
        | true => ∃ r : Value, impB st.bs L (QCall cf.P st f (first.toList.map .v ++ (l ++ caps.toList.map .v)) r) ∧ K st (.v r)
        | false => False)
      | _, _ => False) : QOk cf.P st L o K ρ S w0 a := by
  split at h
  · rename_i f caps l hfn hl
    split at h
    · rename_i hf
      obtain ⟨r, hq, hK⟩ := h
      refine ⟨st, .v r, ρ, hK, rfl, rfl, rfl, ChExt.refl _, fun _ _ => rfl, hm, fun i h1 h2 => absurd h2 (by omega), fun hL => ⟨by simp [svOk], fun w hw => ?_⟩, fun h => by rw [ho] at h; simp [noCallB] at h⟩
      have hq := impB_sound hq hL
      obtain ⟨h1, _⟩ := getVs_sound he hL _ _ hl
      obtain ⟨h2, _⟩ := getV_sound he hL hfn
      have hcall := hq ρ S w (hm.below hw)
      have hargs : args.map a.eval = (denL ρ l).toArray := by rw [← h1, ← Array.toList_map]
      unfold Oper.quietAt
      have hrun : (execOp a.eval o).run cf.P w = .ok (.enter f (denL ρ (l ++ caps)).toArray) w := by
        have := hcf.fns f (hasN_mem hf) (denL ρ (l ++ caps)).toArray w
        rw [denL_append] at this ⊢
        simp only [den] at h2
        simp [execOp, ho, resolve, h2, Deferred.ofValue, invoke, hargs, this]
      rw [hrun]
      exact ⟨rfl, hcall.mono fun e w'' ⟨h2, h3⟩ => ⟨h2, h3⟩⟩
    · exact h.elim
  · rename_i f first caps l hfn hl
    split at h
    · rename_i hf
      obtain ⟨r, hq, hK⟩ := h
      refine ⟨st, .v r, ρ, hK, rfl, rfl, rfl, ChExt.refl _, fun _ _ => rfl, hm, fun i h1 h2 => absurd h2 (by omega), fun hL => ⟨by simp [svOk], fun w hw => ?_⟩, fun h => by rw [ho] at h; simp [noCallB] at h⟩
      have hq := impB_sound hq hL
      obtain ⟨h1, _⟩ := getVs_sound he hL _ _ hl
      obtain ⟨h2, _⟩ := getV_sound he hL hfn
      have hcall := hq ρ S w (hm.below hw)
      have hargs : args.map a.eval = (denL ρ l).toArray := by rw [← h1, ← Array.toList_map]
      unfold Oper.quietAt
      have hrun : (execOp a.eval o).run cf.P w = .ok (.enter f (denL ρ (first ++ (l ++ caps))).toArray) w := by
        have := hcf.fns f (hasN_mem hf) (denL ρ (first ++ (l ++ caps))).toArray w
        rw [denL_append, denL_append] at this ⊢
        simp only [den] at h2
        simp [execOp, ho, resolve, h2, Deferred.ofValue, invoke, hargs, this]
      rw [hrun]
      exact ⟨rfl, hcall.mono fun e w'' ⟨h2, h3⟩ => ⟨h2, h3⟩⟩
    · exact h.elim
  · rename_i f first caps l hfn hl
    split at h
    · rename_i hf
      obtain ⟨r, hq, hK⟩ := h
      refine ⟨st, .v r, ρ, hK, rfl, rfl, rfl, ChExt.refl _, fun _ _ => rfl, hm, fun i h1 h2 => absurd h2 (by omega), fun hL => ⟨by simp [svOk], fun w hw => ?_⟩, fun h => by rw [ho] at h; simp [noCallB] at h⟩
      have hq := impB_sound hq hL
      obtain ⟨h1, _⟩ := getVs_sound he hL _ _ hl
      obtain ⟨h2, _⟩ := getV_sound he hL hfn
      have hcall := hq ρ S w (hm.below hw)
      have hargs : args.map a.eval = (denL ρ l).toArray := by rw [← h1, ← Array.toList_map]
      unfold Oper.quietAt
      have hrun : (execOp a.eval o).run cf.P w = .ok (.enter f (denL ρ (first.toList.map .v ++ (l ++ caps.toList.map .v))).toArray) w := by
        have := hcf.fns f (hasN_mem hf) (denL ρ (first.toList.map .v ++ (l ++ caps.toList.map .v))).toArray w
        rw [denL_append, denL_append, denL_vs, denL_vs] at this ⊢
        simp only [den] at h2
        have e1 : first ++ (denL ρ l).toArray ++ caps = (first.toList ++ (denL ρ l ++ caps.toList)).toArray := by apply Array.toList_inj.1; simp
        rw [← e1] at this ⊢
        simp [execOp, ho, resolve, h2, Deferred.ofValue, invoke, hargs] at this ⊢
        exact this
      rw [hrun]
      exact ⟨rfl, hcall.mono fun e w'' ⟨h2, h3⟩ => ⟨h2, h3⟩⟩
    · exact h.elim
  · exact h.elim

theorem pure_makeFunc {P : Program} {st : St} {L : List (Nat × Bool)} {f : Nat} {first caps : Array Operand} {l m : List SV} {vs cs : List Value} (h1 : getVs st L first.toList = some l) (h2 : getVs st L caps.toList = some m) (e1 : ∀ ρ, denL ρ l = vs) (e2 : ∀ ρ, denL ρ m = cs) :
    PureQ P st L (.makeFunc (.func f) first caps) (.func (.func f) vs.toArray cs.toArray) := by
  intro ρ S w e o hm hL hg ho
  have key : ∀ (xs : List Operand) (l : List SV), getVs st L xs = some l → xs.map e = denL ρ l := by
    intro xs
    induction xs with
    | nil => intro l h; simp only [getVs, Option.some.injEq] at h; subst h; rfl
    | cons x r ih =>
      intro l h
      simp only [getVs] at h
      cases hx : getV st L x with
      | none => simp [hx] at h
      | some s =>
        cases hr : getVs st L r with
        | none => simp [hx, hr] at h
        | some l' =>
          simp only [hx, hr, Option.some.injEq] at h
          subst h
          simp only [List.map_cons, denL, hg x s hx, ih l' hr]
  have g1 : first.map e = vs.toArray := by rw [← e1 ρ, ← key _ _ h1, ← Array.toList_map]
  have g2 : caps.map e = cs.toArray := by rw [← e2 ρ, ← key _ _ h2, ← Array.toList_map]
  simp [execOp, ho, Instr.makeFunc, g1, g2]

theorem q_makeFunc {P : Program} {fn : Fn} {first caps : Array Operand} (ho : o.op = .makeFunc fn first caps) (hm : MemOk st ρ S w0) (he : EnvOk ops st ρ a)
    (h : makeFuncK P st L fn first caps K) : QOk P st L o K ρ S w0 a := by
  unfold makeFuncK at h
  cases hfi : first.toList with
  | cons x y =>
    simp only [hfi] at h
    split at h
    · rename_i f l1 l2 hl1 hl2
      refine QOk.simple hm h fun hL => ?_
      obtain ⟨h1, h2⟩ := getVs_sound he hL _ _ hl1
      obtain ⟨h3, h4⟩ := getVs_sound he hL _ _ hl2
      have e1 : first.map a.eval = (denL ρ l1).toArray := by rw [← h1, ← hfi, ← Array.toList_map]
      have e2 : caps.map a.eval = (denL ρ l2).toArray := by rw [← h3, ← Array.toList_map]
      refine ⟨by simp only [svOk]; exact ⟨h2, h4⟩, fun w _ => ?_⟩
      simp [execOp, ho, Instr.makeFunc, e1, e2, den]
    · exact q_pure ho hm he h
  | nil =>
    have e1 : first = #[] := by apply Array.toList_inj.1; simpa using hfi
    subst e1
    cases fn with
    | func f =>
      cases hl : getVs st L caps.toList with
      | none => simp [hl] at h
      | some l =>
        simp only [hl] at h
        refine QOk.simple hm h fun hL => ?_
        obtain ⟨h1, h2⟩ := getVs_sound he hL _ _ hl
        have hargs : caps.map a.eval = (denL ρ l).toArray := by rw [← h1, ← Array.toList_map]
        refine ⟨by simpa [svOk] using h2, fun w _ => ?_⟩
        simp [execOp, ho, Instr.makeFunc, hargs, den]
    | _ => simp at h

theorem qop_sound {cf : Cfg} (hcf : CfgOk cf) (hcl : closed st.bs L) (hm : MemOk st ρ S w0) (he : EnvOk ops st ρ a) (h : qop cf cf.tt st L o.op K) : QOk cf.P st L o K ρ S w0 a := by
  generalize ho : o.op = op at h
  unfold qop at h
  split at h
  · exact q_move (.inl ho) hm he h
  · exact q_move (.inr ho) hm he h
  · exact q_pick ho hm he h
  · exact q_bin hcf.tt ho hm he h
  · exact q_un ho hm he h
  · exact q_nilCheck ho hm he h
  · exact q_fieldAddr hcf.tt ho hm he h
  · exact q_indexAddr hcf.tt ho hm he h
  · split at h
    · exact q_pure ho hm he h
    · split at h
      · exact q_slice hcl hcf.tt ho hm he h
      · exact h.elim
  · exact q_iface hcf.tt ho hm he h
  · split at h
    · rename_i u hx
      rcases h with h | h
      · exact q_load hcl hcf.tt ho hm he (by rw [hx]; exact h)
      · exact q_pure ho hm he h
    · rename_i s _ hx
      exact q_load hcl hcf.tt ho hm he (by rw [hx]; exact h)
    · exact h.elim
  · split at h
    · exact q_builtin hcf.tt ho hm he h
    · exact q_call hcf ho hm he h
    · exact q_callv hcf ho hm he h
    · exact h.elim
  · exact q_makeFunc ho hm he h
  · exact q_extract ho hm he h
  · exact q_field hcf.tt ho hm he h
  · exact q_build hcf.tt ho hm he h
  · split at h
    · exact q_pureS ho hm he h
    · exact q_convert hcf.tt ho hm he h
  · exact h.elim
  · exact q_pure ho hm he h
end
end Go.Eng

/-! part Snd6 -/
namespace Go.Eng
open Go.RowKit
open Classical

section
variable {ops : Array Oper} {st : St} {L : List (Nat × Bool)} {ρ : Nat → Value} {S : Nat → Prop} {w0 : World} {a : Act}

theorem EnvOk.step {st' : St} {ρ' : Nat → Value} (he : EnvOk ops st ρ a) (hn : st'.n = st.n) (henv : st'.env = st.env) (hbs : st'.bs = st.bs) (hext : ChExt st.ch st'.ch) (hold : ∀ id, id < st.ch.length → ρ' id = ρ id) : EnvOk ops st' ρ' a where
  size := by rw [he.size, hn]
  ent d e h hj := by
    rw [henv] at h
    rw [hbs, he.ent d e h hj]
    by_cases hc : holds st.bs e.cond
    · rw [if_pos hc, if_pos hc, den_congr hold e.sv (he.ok d e h hc)]
    · rw [if_neg hc, if_neg hc]
  ok d e h hc := by
    rw [henv] at h
    rw [hbs] at hc
    exact svOk_ext hext _ (he.ok d e h hc)
  cl d e h := by rw [henv] at h; rw [hbs]; exact he.cl d e h
  bent e h := by rw [hbs] at h ⊢; exact he.bent e h
  bcl e h := by rw [hbs] at h ⊢; exact he.bcl e h

theorem holds_ext {bs : List BEnt} {e : BEnt} (hn : lookB bs e.op = none) : ∀ {L : List (Nat × Bool)}, closed bs L → (holds (e :: bs) L ↔ holds bs L)
  | [], _ => Iff.rfl
  | (j, w) :: r, hc => by
    have hne : Nat.beq e.op j = false := by
      cases hb : Nat.beq e.op j with
      | false => rfl
      | true =>
        have := Nat.eq_of_beq_eq_true hb
        subst this
        obtain ⟨x, hx⟩ := hc (e.op, w) (by simp)
        simp only at hx
        rw [hn] at hx
        cases hx
    simp only [holds, lookB, hne]
    rw [holds_ext hn (L := r) (fun p hp => hc p (by simp [hp]))]

theorem closed_ext {bs : List BEnt} {e : BEnt} {L : List (Nat × Bool)} (h : closed bs L) : closed (e :: bs) L := by
  intro p hp
  obtain ⟨x, hx⟩ := h p hp
  simp only [lookB]
  split
  · exact ⟨_, rfl⟩
  · exact ⟨x, hx⟩

theorem MemOk.env {st' : St} {w : World} (hm : MemOk st ρ S w) (hch : st'.ch = st.ch) (hbs : ∀ L, closed st.bs L → (holds st'.bs L ↔ holds st.bs L) ∧ closed st'.bs L) : MemOk st' ρ S w where
  ok id hid := by
    rw [hch] at hid ⊢
    have := hm.ok id hid
    have hcc := hm.ccl id
    revert this hcc
    cases chGet st.ch id with
    | cnd L α inh sz enc xs => exact fun h hcc hl => h (((hbs L hcc).1).1 hl)
    | rp L cells => exact fun h hcc hl => h (((hbs L hcc).1).1 hl)
    | _ => exact fun h _ => h
  cells := by rw [hch]; exact hm.cells
  sep := by rw [hch]; exact hm.sep
  out := by rw [hch]; exact hm.out
  lt := hm.lt
  ccl id := by rw [hch]; exact (hbs _ (hm.ccl id)).2

theorem lookE_cons (e : Ent) (r : List Ent) (d : Nat) : lookE (e :: r) d = if e.slot = d then some e else lookE r d := by
  simp only [lookE]
  by_cases h : e.slot = d
  · subst h; simp
  · have : Nat.beq e.slot d = false := by
      cases hb : Nat.beq e.slot d with
      | false => rfl
      | true => exact absurd (Nat.eq_of_beq_eq_true hb) h
    simp [this, h]

theorem put_get {a : Act} {d : Nat} {v : Value} (h : d < a.tmps.size) (i : Nat) : (a.put (some d) v).tmps[i]? = if i = d then some v else a.tmps[i]? := by
  simp only [Act.put, Array.getElem?_setIfInBounds]
  by_cases e : d = i
  · subst e; simp [h]
  · rw [if_neg e, if_neg (fun h => e h.symm)]

theorem ite_iff {p q : Prop} {α : Type} {x y : α} (h : p ↔ q) : (if p then x else y) = (if q then x else y) := by
  by_cases hp : p
  · rw [if_pos hp, if_pos (h.1 hp)]
  · rw [if_neg hp, if_neg (fun hq => hp (h.2 hq))]

theorem putK_sound {i : Nat} {o : Oper} {s : SV} {K : St → Prop} {w : World} (hm : MemOk st ρ S w) (he : EnvOk ops st ρ a) (hs : holds st.bs L → svOk st.ch s) (hcl : closed st.bs L) (hoi : ops[i]? = some o)
    (h : putK st i o L s K) : ∃ st', K st' ∧ EnvOk ops st' ρ (a.put o.dst (if holds st.bs L then den ρ s else undef)) ∧ MemOk st' ρ S w ∧ st'.n = st.n := by
  unfold putK at h
  cases hd : o.dst with
  | none => simp only [hd] at h; exact ⟨st, h, by simpa [Act.put] using he, hm, rfl⟩
  | some d =>
    simp only [hd] at h
    obtain ⟨n, env, ch, bs, ids⟩ := st
    simp only at h hs hcl ⊢
    split at h
    case h_2 => exact h.elim
    rename_i hlt hub
    have hlt : d < n := Nat.le_of_ble_eq_true hlt
    have hdn : d < a.tmps.size := by rw [he.size]; exact hlt
    have hub := usedB_false hub
    have base : ∀ bs', (∀ L, closed bs L → (holds bs' L ↔ holds bs L) ∧ closed bs' L) → (∀ e ∈ bs', e ∉ bs → e.slot = d ∧ lookB bs' e.op = some e ∧ (∃ o, ops[e.op]? = some o ∧ o.dst = some e.slot) ∧ (if holds bs L then den ρ s else undef) = (if holds bs e.cond then .bool e.b else undef) ∧ closed bs e.cond) → (∀ e ∈ bs, e ∈ bs' ∧ lookB bs' e.op = some e) →
        EnvOk ops ⟨n, ⟨d, L, s⟩ :: env, ch, bs', ids⟩ ρ (a.put (some d) (if holds bs L then den ρ s else undef)) := by
      intro bs' hb1 hb2 hb3
      constructor
      · simp only [Act.put, Array.size_setIfInBounds]; exact he.size
      · intro d' e hl hj'
        simp only [lookE_cons] at hl
        rw [put_get hdn]
        split at hl
        · rename_i hd'
          simp only [Option.some.injEq] at hl
          subst hl
          have hd' : d = d' := hd'
          rw [if_pos hd'.symm]
          exact congrArg some (ite_iff (hb1 L hcl).1).symm
        · rename_i hd'
          have hd' : ¬ d = d' := hd'
          rw [if_neg (fun h => hd' h.symm), he.ent d' e hl hj']
          exact congrArg some (ite_iff (hb1 _ (he.cl d' e hl)).1).symm
      · intro d' e hl hc
        simp only [lookE_cons] at hl
        split at hl
        · simp only [Option.some.injEq] at hl
          subst hl
          exact hs ((hb1 L hcl).1.1 hc)
        · exact he.ok d' e hl ((hb1 _ (he.cl d' e hl)).1.1 hc)
      · intro d' e hl
        simp only [lookE_cons] at hl
        split at hl
        · simp only [Option.some.injEq] at hl
          subst hl
          exact (hb1 L hcl).2
        · exact (hb1 _ (he.cl d' e hl)).2
      · intro e hmem
        rw [put_get hdn]
        by_cases hin : e ∈ bs
        · obtain ⟨h1, h2, h3⟩ := he.bent e hin
          refine ⟨(hb3 e hin).2, h2, ?_⟩
          rw [if_neg (hub e hin), h3]
          exact congrArg some (ite_iff (hb1 _ (he.bcl e hin)).1).symm
        · obtain ⟨h1, h2, h3, h4, h5⟩ := hb2 e hmem hin
          refine ⟨h2, h3, ?_⟩
          rw [if_pos h1, h4]
          exact congrArg some (ite_iff (hb1 _ h5).1).symm
      · intro e hmem
        by_cases hin : e ∈ bs
        · exact (hb1 _ (he.bcl e hin)).2
        · exact (hb1 _ (hb2 e hmem hin).2.2.2.2).2
    split at h
    · exact h.elim
    · rename_i b _
      split at h
      · exact h.elim
      · rename_i hnone
        have hb1 : ∀ L', closed bs L' → (holds (⟨i, d, L, b⟩ :: bs) L' ↔ holds bs L') ∧ closed (⟨i, d, L, b⟩ :: bs) L' := fun L' hc => ⟨holds_ext (e := ⟨i, d, L, b⟩) hnone hc, closed_ext hc⟩
        refine ⟨_, h, base _ hb1 ?_ ?_, MemOk.env hm rfl hb1, rfl⟩
        · intro e hmem hnot
          rcases List.mem_cons.1 hmem with rfl | hmem
          · exact ⟨rfl, by simp [lookB], ⟨o, hoi, hd⟩, by simp only [den], hcl⟩
          · exact absurd hmem hnot
        · intro e hin
          refine ⟨by simp [hin], ?_⟩
          have h1 := (he.bent e hin).1
          simp only at h1
          simp only [lookB]
          split
          · rename_i hb
            have := Nat.eq_of_beq_eq_true hb
            rw [this, h1] at hnone
            cases hnone
          · exact h1
    · refine ⟨_, h, base bs (fun L hc => ⟨Iff.rfl, hc⟩) (fun e h1 h2 => absurd h1 h2) (fun e hin => ⟨hin, (he.bent e hin).1⟩), MemOk.env hm rfl (fun L hc => ⟨Iff.rfl, hc⟩), rfl⟩

def keepOne (c : Chunk) : Chunk := match c with | .cnd .. => .dead | .rp L cs => (match L with | [] => .rp [] cs | _ => .dead) | c => c
theorem keepC_length : ∀ ch : List Chunk, (keepC ch).length = ch.length
  | [] => rfl
  | c :: r => by simp [keepC, keepC_length r]
theorem chGet_keepC : ∀ (ch : List Chunk) (id : Nat), chGet (keepC ch) id = keepOne (chGet ch id)
  | [], id => by cases id <;> rfl
  | c :: r, 0 => rfl
  | c :: r, id + 1 => by simp only [keepC, chGet]; exact chGet_keepC r id

mutual
theorem svOk_keep {ch : List Chunk} : ∀ s, svOk ch s → svOk (keepC ch) s
  | .v _, _ => by simp [svOk]
  | .bx id off, hs => by simp only [svOk, keepC_length] at hs ⊢; exact hs
  | .el id sz i off, hs => by
    simp only [svOk, keepC_length, chGet_keepC] at hs ⊢
    refine ⟨hs.1, fun n hn => ?_⟩
    have h2 := hs.2 n
    revert hn h2
    have hk : ∀ L cells, keepOne (.rp L cells) = .rp [] cells ∨ keepOne (.rp L cells) = .dead := by
      intro L cells; cases L with
      | nil => exact .inl rfl
      | cons => exact .inr rfl
    cases chGet ch id with
    | rp L cells => intro hn h2; rcases hk L cells with e | e <;> rw [e] at hn <;> simp [lenOf] at hn
    | cnd => intro hn h2; simp [keepOne, lenOf] at hn
    | _ => intro hn h2; exact h2 hn
  | .sl id, hs => by simp only [svOk, keepC_length] at hs ⊢; exact hs
  | .agg l, hs => by simp only [svOk] at hs ⊢; exact svOkL_keep l hs
  | .tup l, hs => by simp only [svOk] at hs ⊢; exact svOkL_keep l hs
  | .fn f l, hs => by simp only [svOk] at hs ⊢; exact svOkL_keep l hs
  | .mv f l1 l2, hs => by simp only [svOk] at hs ⊢; exact ⟨svOkL_keep l1 hs.1, svOkL_keep l2 hs.2⟩
  | .junk, _ => by simp [svOk]
theorem svOkL_keep {ch : List Chunk} : ∀ l, svOkL ch l → svOkL (keepC ch) l
  | [], _ => by simp [svOkL]
  | s :: r, hs => by simp only [svOkL] at hs ⊢; exact ⟨svOk_keep s hs.1, svOkL_keep r hs.2⟩
end

theorem lookE_keepE : ∀ (env : List Ent) (d : Nat) (e : Ent), lookE (keepE env) d = some e → e.sv ≠ .junk → lookE env d = some e ∧ e.cond = []
  | [], d, e, h, _ => by simp [keepE, lookE] at h
  | ⟨s, L, v⟩ :: r, d, e, h, hj => by
    simp only [keepE] at h
    rw [lookE_cons]
    split at h
    · rw [lookE_cons] at h
      split at h
      · rename_i hs
        simp only [Option.some.injEq] at h
        subst h
        exact ⟨by rw [if_pos hs], rfl⟩
      · rename_i hs
        simp only at hs ⊢
        rw [if_neg hs]
        exact lookE_keepE r d e h hj
    · rw [lookE_cons] at h
      split at h
      · simp only [Option.some.injEq] at h
        subst h
        exact absurd rfl hj
      · rename_i hs
        simp only at hs ⊢
        rw [if_neg hs]
        exact lookE_keepE r d e h hj

theorem lookE_keep_junk : ∀ (env : List Ent) (d : Nat) (e : Ent), lookE (keepE env) d = some e → e.cond = []
  | [], d, e, h => by simp [keepE, lookE] at h
  | ⟨s, L, v⟩ :: r, d, e, h => by
    simp only [keepE] at h
    split at h <;> rw [lookE_cons] at h <;> split at h
    · simp only [Option.some.injEq] at h; subst h; rfl
    · exact lookE_keep_junk r d e h
    · simp only [Option.some.injEq] at h; subst h; rfl
    · exact lookE_keep_junk r d e h

theorem condOut_sound {K : St → Prop} {w : World} (hm : MemOk st ρ S w) (he : EnvOk ops st ρ a) (h : condOut st K) : ∃ st', K st' ∧ (∀ ops', EnvOk ops' st' ρ a) ∧ MemOk st' ρ S w ∧ st'.n = st.n ∧ st'.bs = [] := by
  obtain ⟨n, env, ch, bs, ids⟩ := st
  simp only [condOut, keepEK_eq, keepCK_eq] at h
  split at h
  · refine ⟨_, h, fun ops' => ?_, hm, rfl, rfl⟩
    exact ⟨he.size, he.ent, he.ok, he.cl, fun e h => by simp at h, fun e h => by simp at h⟩
  · have own : ∀ c v, ownBlk (keepOne c) v = ownBlk c v := by
      intro c v
      cases c with
      | rp L cells => cases L <;> rfl
      | _ => rfl
    refine ⟨_, h, fun ops' => ⟨he.size, ?_, ?_, ?_, fun e h => by simp at h, fun e h => by simp at h⟩, ⟨?_, ?_, ?_, ?_, hm.lt, ?_⟩, rfl, rfl⟩
    · intro d e hl hj
      obtain ⟨h1, h2⟩ := lookE_keepE env d e hl hj
      have := he.ent d e h1 hj
      simp only [h2, holds, if_true] at this ⊢
      exact this
    · intro d e hl _
      by_cases hj : e.sv = .junk
      · rw [hj]; simp [svOk]
      · obtain ⟨h1, h2⟩ := lookE_keepE env d e hl hj
        exact svOk_keep _ (he.ok d e h1 (by rw [h2]; trivial))
    · intro d e hl
      rw [lookE_keep_junk env d e hl]
      intro p hp
      simp at hp
    · intro id hid
      simp only [keepC_length] at hid
      have := hm.ok id hid
      simp only at this ⊢
      rw [chGet_keepC]
      revert this
      cases chGet ch id with
      | rp L cells =>
        intro this
        cases L with
        | nil => exact fun _ => this trivial
        | cons => trivial
      | cnd => intro _; trivial
      | _ => intro this; exact this
    · intro id
      simp only
      rw [chGet_keepC]
      have := svOkL_keep _ (hm.cells id)
      simp only at this
      revert this
      cases chGet ch id with
      | rp L cells => intro _; cases L <;> simp [keepOne, cellsIn, svOkL]
      | cnd => intro _; simp [keepOne, cellsIn, svOkL]
      | _ => intro this; exact this
    · intro i j b hi hj hij h1
      simp only [keepC_length, chGet_keepC, own] at hi hj h1 ⊢
      exact hm.sep i j b hi hj hij h1
    · intro i b hi h1
      simp only [keepC_length, chGet_keepC, own] at hi h1
      exact hm.out i b hi h1
    · intro id
      simp only
      rw [chGet_keepC]
      have hcc := hm.ccl id
      simp only at hcc
      revert hcc
      cases chGet ch id with
      | rp L cells => intro _; cases L <;> (intro p hp; simp [keepOne, condsOf] at hp)
      | _ => intro _ p hp; simp [keepOne, condsOf] at hp
end
end Go.Eng

/-! part Snd7 -/
namespace Go.Eng
open Go.RowKit
open Classical

section
variable {cf : Cfg} {ops : Array Oper} {S : Nat → Prop} {w0 : World}

section
variable {st : St} {ρ : Nat → Value} {a : Act}
theorem putK_len {i : Nat} {o : Oper} {L : List (Nat × Bool)} {s : SV} {K : St → Prop} {w : World} {ops : Array Oper} (hm : MemOk st ρ S w) (he : EnvOk ops st ρ a) (hs : holds st.bs L → svOk st.ch s) (hcl : closed st.bs L) (hoi : ops[i]? = some o)
    (h : putK st i o L s K) : ∃ st', (K st' ∧ st'.ch = st.ch) ∧ EnvOk ops st' ρ (a.put o.dst (if holds st.bs L then den ρ s else undef)) ∧ MemOk st' ρ S w ∧ st'.n = st.n := by
  have h' : putK st i o L s (fun st' => K st' ∧ st'.ch = st.ch) := by
    obtain ⟨n, env, ch, bs, ids⟩ := st
    unfold putK at h ⊢
    simp only at h ⊢
    split at h
    · exact ⟨h, trivial⟩
    · rename_i d hd
      split at h
      · rename_i h1 h2
        split at h
        · exact h.elim
        · rename_i b _
          split at h
          · exact h.elim
          · exact ⟨h, trivial⟩
        · exact ⟨h, trivial⟩
      · exact h.elim
  exact putK_sound hm he hs hcl hoi h'

/-- the same things are one's own -/
def OwnEq (st st' : St) : Prop := st'.ch.length = st.ch.length ∧ (∀ i v, ownBlk (chGet st'.ch i) v = ownBlk (chGet st.ch i) v) ∧ ∀ i l go n, chGet st'.ch i = .yk l go n → chGet st.ch i = .yk l go n
theorem OwnEq.refl (st : St) : OwnEq st st := ⟨rfl, fun _ _ => rfl, fun _ _ _ _ h => h⟩
theorem OwnEq.of {st st' : St} (h : st'.ch = st.ch) : OwnEq st st' := ⟨by rw [h], fun i v => by rw [h], fun _ _ _ _ e => by rw [← h]; exact e⟩
theorem ownBlk_keep (c : Chunk) (v : Value) : ownBlk (keepOne c) v = ownBlk c v := by
  cases c with
  | rp L cells => cases L <;> rfl
  | _ => rfl
theorem keepOne_yk {c : Chunk} {l : Nat} {go : Bool} {n : Nat} (h : keepOne c = .yk l go n) : c = .yk l go n := by
  cases c with
  | rp L cells => cases L <;> simp [keepOne] at h
  | cnd => simp [keepOne] at h
  | _ => exact h
theorem condOut_len {K : St → Prop} {w : World} {ops : Array Oper} (hm : MemOk st ρ S w) (he : EnvOk ops st ρ a) (h : condOut st K) : ∃ st', (K st' ∧ OwnEq st st') ∧ (∀ ops', EnvOk ops' st' ρ a) ∧ MemOk st' ρ S w ∧ st'.n = st.n ∧ st'.bs = [] := by
  have h' : condOut st (fun st' => K st' ∧ OwnEq st st') := by
    obtain ⟨n, env, ch, bs, ids⟩ := st
    simp only [condOut, keepEK_eq, keepCK_eq] at h ⊢
    split at h
    · exact ⟨h, OwnEq.refl _⟩
    · exact ⟨h, keepC_length ch, fun i v => by simp only [chGet_keepC, ownBlk_keep], fun i l go n e => by simp only [chGet_keepC] at e; exact keepOne_yk e⟩
  exact condOut_sound hm he h'
end

theorem cond_wanted {st : St} {ρ : Nat → Value} {a : Act} {o : Oper} {L : List (Nat × Bool)} (he : EnvOk ops st ρ a) (h : condOf st.bs o.guard = some L) :
    closed st.bs L ∧ (Region.wanted o (yielded ops a.tmps) = true ↔ holds st.bs L) := by
  cases hg : o.guard with
  | none =>
    simp only [hg, condOf, Option.some.injEq] at h
    subst h
    exact ⟨fun p hp => by simp at hp, by simp [Region.wanted, hg, holds]⟩
  | some q =>
    obtain ⟨j, wnt⟩ := q
    simp only [hg, condOf] at h
    cases hl : lookB st.bs j with
    | none => simp [hl] at h
    | some e =>
      simp only [hl, Option.some.injEq] at h
      subst h
      obtain ⟨hm, hop⟩ := lookB_mem hl
      obtain ⟨_, ⟨o', ho', hd'⟩, ht⟩ := he.bent e hm
      refine ⟨?_, ?_⟩
      · intro p hp
        rcases List.mem_cons.1 hp with rfl | hp
        · exact ⟨e, hl⟩
        · exact he.bcl e hm p hp
      · simp only [Region.wanted, hg, yielded]
        rw [← hop, ho']
        simp only [Option.bind_some, hd', ht]
        simp only [holds, hop, hl]
        by_cases hc : holds st.bs e.cond
        · simp only [if_pos hc, hc, and_true]
          simp
        · simp only [if_neg hc, hc, and_false]
          simp [undef]

theorem wpQuiet_mono {P : Program} {C : World → Prop} {Q Q' : Act → Prop} (h : ∀ a, Q a → Q' a) : ∀ (l : List Oper) (a : Act), wpQuiet P ops C Q l a → wpQuiet P ops C Q' l a
  | [], a, hq => h a hq
  | o :: r, a, hq => by
    simp only [wpQuiet] at hq ⊢
    split
    · rename_i hw
      rw [if_pos hw] at hq
      exact Oper.quiet_mono (fun a' => wpQuiet_mono h r a') hq
    · rename_i hw
      rw [if_neg hw] at hq
      exact wpQuiet_mono h r _ hq

theorem put_defers (a : Act) (d : Option Tmp) (v : Value) : (a.put d v).defers = a.defers := by unfold Act.put; cases d <;> rfl

theorem qops_sound (hcf : CfgOk cf) {K : St → Prop} : ∀ (l : List Oper) (is : List Nat) (k : Nat) (st : St) (ρ : Nat → Value) (a : Act), (∀ j : Nat, l[j]? = ops[k + j]?) → (∀ (j i : Nat), is[j]? = some i → i = k + j) →
    MemOk st ρ S w0 → EnvOk ops st ρ a → qops cf cf.tt l is st K →
    wpQuiet cf.P ops (CC w0) (fun a' => ∃ st' ρ', K st' ∧ (∀ ops', EnvOk ops' st' ρ' a') ∧ MemOk st' ρ' S w0 ∧ st'.bs = [] ∧ st.ch.length ≤ st'.ch.length ∧ (∀ id, id < st.ch.length → ρ' id = ρ id) ∧ (∀ i b, i < st'.ch.length → ownBlk (chGet st'.ch i) (ρ' i) = some b → ∃ j, j < st.ch.length ∧ ownBlk (chGet st.ch j) (ρ j) = some b) ∧ (∀ i l go n, chGet st'.ch i = .yk l go n → chGet st.ch i = .yk l go n) ∧ a'.defers = a.defers) l a
  | [], is, k, st, ρ, a, _, _, hm, he, h => by
    simp only [qops] at h
    obtain ⟨st', ⟨hK, hl⟩, h1, h2, h3, h4⟩ := condOut_len hm he h
    exact ⟨st', ρ, hK, h1, h2, h4, by rw [hl.1]; exact Nat.le_refl _, fun _ _ => rfl, fun i b hi e => ⟨i, by rw [← hl.1]; exact hi, by rw [← hl.2.1]; exact e⟩, hl.2.2, rfl⟩
  | o :: r, [], k, st, ρ, a, _, _, hm, he, h => by simp [qops] at h
  | o :: r, i :: is, k, st, ρ, a, hl, hi, hm, he, h => by
    simp only [qops] at h
    cases hc : condOf st.bs o.guard with
    | none => simp [hc] at h
    | some L =>
      simp only [hc] at h
      obtain ⟨hcl, hw⟩ := cond_wanted he hc
      obtain ⟨st1, s, ρ1, h1, hr⟩ := qop_sound hcf hcl hm he h
      have he1 := he.step hr.n hr.env hr.bs hr.chx hr.old
      have hik : i = k := by simpa using hi 0 i rfl
      have hoi : ops[i]? = some o := by rw [hik]; simpa using (hl 0).symm
      obtain ⟨st2, ⟨h2, hch2⟩, he2, hm2, hn2⟩ := putK_len hr.mem he1 (fun hL => (hr.run (by rw [hr.bs] at hL; exact hL)).1) (by rw [hr.bs]; exact hcl) hoi h1
      have ih := qops_sound hcf r is (k + 1) st2 ρ1 _ (fun j => by have := hl (j + 1); simpa [Nat.add_assoc, Nat.add_comm 1 j] using this) (fun j x hx => by have := hi (j + 1) x (by simpa using hx); omega) hm2 he2 h2
      have ih' : wpQuiet cf.P ops (CC w0) (fun a' => ∃ st' ρ', K st' ∧ (∀ ops', EnvOk ops' st' ρ' a') ∧ MemOk st' ρ' S w0 ∧ st'.bs = [] ∧ st.ch.length ≤ st'.ch.length ∧ (∀ id, id < st.ch.length → ρ' id = ρ id) ∧ (∀ i b, i < st'.ch.length → ownBlk (chGet st'.ch i) (ρ' i) = some b → ∃ j, j < st.ch.length ∧ ownBlk (chGet st.ch j) (ρ j) = some b) ∧ (∀ i l go n, chGet st'.ch i = .yk l go n → chGet st.ch i = .yk l go n) ∧ a'.defers = a.defers) r (a.put o.dst (if holds st1.bs L then den ρ1 s else undef)) := by
        refine wpQuiet_mono (fun a' hq => ?_) _ _ ih
        obtain ⟨st', ρ', g1, g2, g3, g4, g5, g6, g7, g8, g9⟩ := hq
        refine ⟨st', ρ', g1, g2, g3, g4, Nat.le_trans hr.chx.1 (by rw [← hch2]; exact g5), fun id hid => (g6 id (by rw [hch2]; exact Nat.lt_of_lt_of_le hid hr.chx.1)).trans (hr.old id hid), fun i b hi e => ?_, fun i l go n e => (hr.yks) i l go n (by rw [← hch2]; exact g8 i l go n e), by rw [g9, put_defers]⟩
        obtain ⟨j, hj, e2⟩ := g7 i b hi e
        rw [hch2] at hj e2
        by_cases hlt : j < st.ch.length
        · rw [hr.chx.2 j hlt, hr.old j hlt] at e2; exact ⟨j, hlt, e2⟩
        · exact absurd e2 ((hr.own j (by omega) hj).1 b)
      simp only [wpQuiet]
      by_cases hL : holds st.bs L
      · rw [if_pos (hw.2 hL)]
        rw [if_pos (by rw [hr.bs]; exact hL)] at ih'
        exact ⟨den ρ1 s, (hr.run hL).2, ih'⟩
      · rw [if_neg (fun h => hL (hw.1 h))]
        rw [if_neg (by rw [hr.bs]; exact hL)] at ih'
        exact ih'

/-- a quiet walk serves a region that does not draw, too -/
theorem wpList_of_quiet {P : Program} {C : World → Prop} {Qa : Act → Prop} {Q : Exit → Act → World → Prop} (hQ : ∀ a w, C w → Qa a → Q .normal a w) : ∀ (l : List Oper) (a : Act) (w : World), C w → wpQuiet P ops C Qa l a → wpList P ops Q l a w
  | [], a, w, hw, h => hQ a w hw h
  | o :: r, a, w, hw, h => by
    simp only [wpQuiet] at h
    simp only [wpList]
    split
    · rename_i hwt
      rw [if_pos hwt] at h
      exact .inl (Oper.wp_of_quiet hw (fun a' w' hw' h' => wpList_of_quiet hQ r a' w' hw' h') h)
    · rename_i hwt
      rw [if_neg hwt] at h
      exact wpList_of_quiet hQ r _ w hw h

theorem nats_get : ∀ j i : Nat, nats[j]? = some i → i = 0 + j := by
  have h : nats = List.range nats.length := by decide +kernel
  intro j i hj
  rw [h, List.getElem?_range] at hj
  · simp at hj; omega
  · rcases Nat.lt_or_ge j nats.length with hlt | hge
    · exact hlt
    · rw [h, List.getElem?_eq_none (by simpa using hge)] at hj; cases hj
end
end Go.Eng

/-! part Eng2 -/
namespace Go.Eng
open Go.RowKit

/-! ### operations that change memory, in regions that do not draw -/
def setCh : List Chunk → Nat → Chunk → List Chunk
  | [], _, _ => []
  | _ :: r, 0, c => c :: r
  | a :: r, n + 1, c => a :: setCh r n c

def setK : List Chunk → Nat → Chunk → (List Chunk → Prop) → Prop
  | [], _, _, K => K []
  | _ :: r, 0, c, K => K (c :: r)
  | a :: r, n + 1, c, K => setK r n c (fun l => K (a :: l))
theorem setK_eq : ∀ (l : List Chunk) (i : Nat) (c : Chunk) (K : List Chunk → Prop), setK l i c K = K (setCh l i c)
  | [], _, _, _ => rfl
  | _ :: r, 0, c, K => rfl
  | a :: r, n + 1, c, K => by simp only [setK, setCh, setK_eq r n c]

/-- chunks may have been written: what elements' addresses lean on has stayed -/
def ChRel (ch ch' : List Chunk) : Prop :=
  ch.length ≤ ch'.length ∧ ∀ id, id < ch.length → ∀ n', lenOf (chGet ch' id) = some n' → ∃ n, lenOf (chGet ch id) = some n ∧ n ≤ n' ∧ szOf (chGet ch' id) = szOf (chGet ch id)

structure Adv (st st' : St) (ρ ρ' : Nat → Value) (S S' : Nat → Prop) (w w' : World) : Prop where
  n : st'.n = st.n
  env : st'.env = st.env
  bs : st'.bs = st.bs
  rel : ChRel st.ch st'.ch
  old : ∀ id, id < st.ch.length → ρ' id = ρ id
  mem : MemOk st' ρ' S' w'
  sub : ∀ b, S b → S' b
  frame : ∀ b, b < w.heap.size → (∀ i, i < st.ch.length → ownBlk (chGet st.ch i) (ρ i) ≠ some b) → w'.heap[b]? = w.heap[b]?
  ownf : ∀ i b, i < st'.ch.length → ownBlk (chGet st'.ch i) (ρ' i) = some b → w.heap.size ≤ b ∨ ∃ j, j < st.ch.length ∧ ownBlk (chGet st.ch j) (ρ j) = some b
  grow : ∀ b, S' b → S b ∨ w.heap.size ≤ b ∨ ∃ j, j < st.ch.length ∧ ownBlk (chGet st.ch j) (ρ j) = some b
  yks : ∀ id l go n, chGet st'.ch id = .yk l go n → chGet st.ch id = .yk l go n
  size : w.heap.size ≤ w'.heap.size
  os : w'.os = w.os
  tape : w'.tape = w.tape
  output : w'.output = w.output

/-- a call, whatever it does to memory that is one's own; Kp: it may panic -/
def LCall (P : Program) (st : St) (f : Nat) (args : List SV) (K : St → SV → Prop) (Kp : List PanicEntry → St → Prop := fun _ _ => False) : Prop :=
  ∀ ρ S w, MemOk st ρ S w → Calls P f (denL ρ args).toArray w fun e w' =>
    (∃ st' s ρ' S', e = .returned (den ρ' s) ∧ Adv st st' ρ ρ' S S' w w' ∧ svOk st'.ch s ∧ K st' s) ∨
    (∃ ch st' ρ' S', e = .panicked ch ∧ Adv st st' ρ ρ' S S' w w' ∧ Kp ch st')

/-- an operation of any kind, what it does being said by hand -/
structure GOp (P : Program) (st : St) (op : Op) (K : St → SV → Prop) : Prop where
  run : ∀ (ρ : Nat → Value) (S : Nat → Prop) (w : World) (e : Operand → Value) (o : Oper), MemOk st ρ S w → (∀ x s, getV st [] x = some s → e x = den ρ s ∧ svOk st.ch s) → o.op = op →
    ∃ st' s ρ' S' w', ((execOp e o).run P w = .ok (.value (den ρ' s)) w' ∨ (s = .v undef ∧ (execOp e o).run P w = .ok .skip w')) ∧ Adv st st' ρ ρ' S S' w w' ∧ svOk st'.ch s ∧ K st' s

def withCh (st : St) (id : Nat) (c : Chunk) (K : St → Prop) : Prop :=
  match st with
  | ⟨n, env, ch, bs, ids⟩ => setK ch id c (fun ch' => K ⟨n, env, ch', bs, ids⟩)

def toDV (st : St) : SV → Option DV
  | .v (.agg _) => none
  | .v (.tuple _) => none
  | .v x => some (.v x)
  | .sl id => match chGet st.ch id with | .rd α inh sz enc xs => some (.sl α inh sz enc xs) | _ => none
  | .bx id 0 => match chGet st.ch id with | .rp [] cells => some (.ptr cells) | _ => none
  | _ => none
def toDVs (st : St) : List SV → Option (List DV)
  | [] => some []
  | s :: r => match toDV st s, toDVs st r with | some d, some l => some (d :: l) | _, _ => none

def spliceD (cs : List DV) (off : Nat) (ns : List DV) : List DV :=
  match cs, off with
  | cs, 0 => ns ++ dropL cs ns.length
  | [], _ + 1 => []
  | c :: r, o + 1 => c :: spliceD r o ns

def repL {α : Type u} : Nat → List α → List α
  | 0, _ => []
  | n + 1, l => l ++ repL n l

/-- the rows of an appended slice, as data of the type in hand -/
def rowsAs (st : St) (c : Chunk) (α : Type) (inh : Inhabited α) (sz : Nat) (enc : α → List DV) (ys : List α) : Prop :=
  match c with
  | .raw _ n sz' cells => (match toDVs st cells, Nat.beq sz sz' with | some ds, true => ys.length = n ∧ ds = ys.flatMap enc ∧ (∀ y ∈ ys, (enc y).length = sz) | _, _ => False)
  | .rd β inh' sz' enc' zs => sz = sz' ∧ ys.length = zs.length ∧ ∀ i, i < zs.length → enc (nth ys i) = enc' (nth zs i) ∧ (enc (nth ys i)).length = sz
  | .own _ β inh' sz' enc' zs => sz = sz' ∧ ys.length = zs.length ∧ ∀ i, i < zs.length → enc (nth ys i) = enc' (nth zs i) ∧ (enc (nth ys i)).length = sz
  | _ => False

def killCh (st : St) (id : Nat) (K : St → Prop) : Prop := withCh st id .dead K

/-- slices of one's own among cells that are stored: from now on they are only read -/
def frzK : List SV → St → (St → Prop) → Prop
  | [], st, K => K st
  | s :: r, st, K => match s with
    | .sl id => (match chGet st.ch id with
      | .own _ α inh sz enc xs => withCh st id (.rd α inh sz enc xs) (fun st' => frzK r st' K)
      | _ => frzK r st K)
    | _ => frzK r st K
def rawC (st : St) : SV → List SV
  | .sl ix => (match chGet st.ch ix with | .raw _ _ _ cells => cells | _ => [])
  | _ => []

def appendK (tt : TT) (st : St) (e : Nat) (s x : SV) (K : St → SV → Prop) : Prop :=
  let r := ttGet tt e
  match x with
  | .sl ix => match s with
    | .v (.slice none 0 0) => ∃ (α : Type) (inh : Inhabited α) (enc : α → List DV) (ys : List α),
        rowsAs st (chGet st.ch ix) α inh r.size enc ys ∧ (ys.length * r.bytes ≤ 140737488355328) ∧ newCh st (.own e α inh r.size enc ys) (fun st' id => K st' (.sl id))
    | .sl is => (match chGet st.ch is with
      | .own t α inh sz enc xs => (match Nat.beq t e, Nat.beq sz r.size, Nat.beq is ix with
        | true, true, false => ∃ ys : List α, rowsAs st (chGet st.ch ix) α inh sz enc ys ∧ ((xs.length + ys.length) * r.bytes ≤ 140737488355328) ∧
            killCh st is (fun st1 => newCh st1 (.own e α inh sz enc (xs ++ ys)) (fun st' id => K st' (.sl id)))
        | _, _, _ => False)
      | .raw t n sz cells => (match Nat.beq t e, Nat.beq sz r.size, Nat.beq is ix, Nat.ble n 16777216 with
        | true, true, false, true => ∃ (α : Type) (inh : Inhabited α) (enc : α → List DV) (xs ys : List α), rowsAs st (.raw t n sz cells) α inh sz enc xs ∧ rowsAs st (chGet st.ch ix) α inh sz enc ys ∧ ((xs.length + ys.length) * r.bytes ≤ 140737488355328) ∧
            killCh st is (fun st1 => newCh st1 (.own e α inh sz enc (xs ++ ys)) (fun st' id => K st' (.sl id)))
        | _, _, _, _ => False)
      | _ => False)
    | _ => False
  | _ => False

/-- a string's bytes appended -/
def rowsStr (b : ByteArray) (α : Type) (inh : Inhabited α) (enc : α → List DV) (ys : List α) : Prop :=
  ys.length = b.size ∧ ∀ i, i < ys.length → enc (nth ys i) = [.v (.int .u8 (b.data.toList.getD i 0).toNat)]
def appendStrK (st : St) (e : Nat) (s : SV) (b : ByteArray) (K : St → SV → Prop) : Prop :=
  match s with
  | .v (.slice none 0 0) => ∃ (α : Type) (inh : Inhabited α) (enc : α → List DV) (ys : List α),
      rowsStr b α inh enc ys ∧ b.size ≤ 140737488355328 ∧ newCh st (.own e α inh 1 enc ys) (fun st' id => K st' (.sl id))
  | .sl is => (match chGet st.ch is with
    | .own t α inh sz enc xs => (match Nat.beq t e, Nat.beq sz 1 with
      | true, true => ∃ ys : List α, rowsStr b α inh enc ys ∧ xs.length + ys.length ≤ 140737488355328 ∧
          killCh st is (fun st1 => newCh st1 (.own e α inh 1 enc (xs ++ ys)) (fun st' id => K st' (.sl id)))
      | _, _ => False)
    | _ => False)
  | _ => False

def lop (cf : Cfg) (tt : TT) (st : St) (op : Op) (K : St → SV → Prop) (Kp : List PanicEntry → St → Prop) : Prop :=
  match op with
  | .alloc t => (match knownD (ttGet tt t).d with
    | true => (match (ttGet tt t).d with
      | .arr n e => newCh st (.bx t ((ttGet tt t).zero.map .v)) (fun st' id => K st' (.bx id 0)) ∨
          ∃ (α : Type) (inh : Inhabited α) (enc : α → List DV) (xs : List α), (ttGet tt t).zero.map .v = xs.flatMap enc ∧ (∀ y ∈ xs, (enc y).length = (ttGet tt e).size) ∧ xs.length = n ∧ Nat.ble (n * (ttGet tt e).size) 16777216 = true ∧ Nat.ble n 16777216 = true ∧ allCell st [] ((ttGet tt t).zero.map .v) = true ∧
            newCh st (.own t α inh (ttGet tt e).size enc xs) (fun st' id => K st' (.bx id 0))
      | _ => newCh st (.bx t ((ttGet tt t).zero.map .v)) (fun st' id => K st' (.bx id 0)))
    | false => False)
  | .box t x => (match getV st [] x with
    | some s => (match flatOk st [] s with
      | true => newCh st (.bx t (cellsOf s)) (fun st' id => K st' (.bx id 0))
      | false => False)
    | none => False)
  | .store t p x => (match getV st [] p, getV st [] x, knownD (ttGet tt t).d with
    | some (.bx id off), some s, true => (match chGet st.ch id with
      | .bx t' cells => (match flatOk st [] s, allCell st [] (cellsOf s), Nat.beq (cellsOf s).length (ttGet tt t).size, Nat.ble (off + (cellsOf s).length) cells.length with
        | true, true, true, true => withCh st id (.bx t' (spliceL cells off (cellsOf s))) (fun st' => K st' (.v undef))
        | _, _, _, _ => False)
      | _ => False)
    | some (.el id sz i off), some s, true => frzK (cellsOf s) st (fun st => match chGet st.ch id with
      | .own t' α inh sz' enc xs => (match flatOk st [] s, allCell st [] (cellsOf s), toDVs st (cellsOf s), Nat.beq (cellsOf s).length (ttGet tt t).size, Nat.beq sz sz', Nat.ble (off + (cellsOf s).length) sz with
        | true, true, some ds, true, true, true => ∃ y : α, enc y = spliceD (enc (nth xs i)) off ds ∧ (enc (nth xs i)).length = sz ∧ withCh st id (.own t' α inh sz enc (xs.set i y)) (fun st' => K st' (.v undef))
        | _, _, _, _, _, _ => False)
      | _ => False)
    | _, _, _ => False)
  | .buildSlice t n parts => (match (ttGet tt t).d with
    | .sl e => (match knownD (ttGet tt e).d, fillS (fun i => some (i * (ttGet tt e).size, (ttGet tt e).size)) st [] (repL n ((ttGet tt e).zero.map .v)) parts.toList, Nat.ble (n * (ttGet tt e).size) 16777216, Nat.beq (ttGet tt e).zero.length (ttGet tt e).size with
      | true, some cells, true, true => newCh st (.raw e n (ttGet tt e).size cells) (fun st' id => K st' (.sl id))
      | _, _, _, _ => False)
    | _ => False)
  | .makeSlice t (.const (.int .i64 0)) c => (match (ttGet tt t).d, getV st [] c with
    | .sl e, some (.v (.int .i64 m)) => (match knownD (ttGet tt e).d with
      | true => ∃ (α : Type) (inh : Inhabited α) (enc : α → List DV), 0 ≤ m ∧ (ttGet tt e).bytes * m ≤ 140737488355328 ∧ m ≤ 9223372036854775807 ∧ newCh st (.own e α inh (ttGet tt e).size enc []) (fun st' id => K st' (.sl id))
      | false => False)
    | _, _ => False)
  | .makeSlice t l c => (match (ttGet tt t).d, getV st [] l, getV st [] c with
    | .sl e, some (.v (.int .i64 n)), some (.v (.int .i64 m)) => (match knownD (ttGet tt e).d, Nat.beq (ttGet tt e).zero.length (ttGet tt e).size, allCell st [] ((ttGet tt e).zero.map .v) with
      | true, true, true => ∃ (α : Type) (inh : Inhabited α) (enc : α → List DV) (z : α), m = n ∧ 0 ≤ n ∧ (ttGet tt e).bytes * n ≤ 140737488355328 ∧ n ≤ 9223372036854775807 ∧ enc z = (ttGet tt e).zero.map .v ∧
          newCh st (.own e α inh (ttGet tt e).size enc (List.replicate n.toNat z)) (fun st' id => K st' (.sl id))
      | _, _, _ => False)
    | _, _, _ => False)
  | .call ⟨.builtin .append, args, ts⟩ => (match args.toList, ts.toList with
    | [s, x], [t, t'] => (match Nat.beq t t', (ttGet tt t).d, getV st [] s, getV st [] x with
      | false, .sl e, some sv, some (.v (.string b)) => (match (ttGet tt t').d, (ttGet tt e).d, Nat.beq (ttGet tt e).zero.length (ttGet tt e).size, Nat.beq (ttGet tt e).size 1, Nat.beq (ttGet tt e).bytes 1 with
        | .str, .int .u8, true, true, true => appendStrK st e sv b K
        | _, _, _, _, _ => False)
      | true, .sl e, some sv, some xv => (match knownD (ttGet tt e).d, Nat.beq (ttGet tt e).zero.length (ttGet tt e).size, Nat.blt 0 (ttGet tt e).size, Nat.blt 0 (ttGet tt e).bytes with
        | true, true, true, true => frzK (rawC st xv) st (fun st1 => appendK tt st1 e sv xv K)
        | _, _, _, _ => False)
      | _, _, _, _ => False)
    | _, _ => False)
  | .call ⟨.value (.func f), args, ts⟩ => (match hasN cf.fns f, getVs st [] args.toList with
    | true, some l => (∃ r : Value, QCall cf.P st f l r ∧ K st (.v r)) ∨ LCall cf.P st f l K Kp
    | false, _ => pureSK cf.P st [] (.call ⟨.value (.func f), args, ts⟩) K
    | _, _ => False)
  | .call ⟨.value (.tmp t), args, _⟩ => (match getV st [] (.tmp t), getVs st [] args.toList with
    | some (.fn f caps), some l => (match hasN cf.fns f with
      | true => (∃ r : Value, QCall cf.P st f (l ++ caps) r ∧ K st (.v r)) ∨ LCall cf.P st f (l ++ caps) K Kp
      | false => False)
    | some (.mv f first caps), some l => (match hasN cf.fns f with
      | true => (∃ r : Value, QCall cf.P st f (first ++ (l ++ caps)) r ∧ K st (.v r)) ∨ LCall cf.P st f (first ++ (l ++ caps)) K Kp
      | false => False)
    | _, _ => qop cf tt st [] op K)
  | .call ⟨.invoke x name, args, _⟩ => (match getV st [] x, getVs st [] args.toList with
    | some (.v (.iface t v)), some l => ∃ (f : Nat) (r : Value), hasN cf.fns f = true ∧ (∀ w, (method (cf.P.types.size + Made.depth) t v name).run cf.P w = .ok (f, r) w) ∧ LCall cf.P st f (.v r :: l) K Kp
    | _, _ => False)
  | .panic x => (match getV st [] x with
    | some (.v (.iface t v)) => Kp [{ v := .iface t v, recovered := false }] st
    | _ => False)
  | .slice t x lo hi mx => (match plainSl (getV st [] x) with
    | true => pureK cf.P st [] (.slice t x lo hi mx) K
    | false => match getV st [] x, mx with
    | some (.sl id), none => (match chGet st.ch id with
      | .own t' α inh sz enc xs => (match (ttGet tt t).d, bndV st [] 0 lo, bndV st [] xs.length hi with
        | .sl e, some l, some h => (match Nat.beq sz (ttGet tt e).size, knownD (ttGet tt e).d with
          | true, true => (0 ≤ l ∧ l ≤ h ∧ h ≤ xs.length) ∧
            ((l = 0 ∧ killCh st id (fun st1 => newCh st1 (.own t' α inh sz enc (xs.take h.toNat)) (fun st' i => K st' (.sl i)))) ∨
             withCh st id (.rd α inh sz enc xs) (fun st1 => newCh st1 (.rd α inh sz enc (midL xs l.toNat h.toNat)) (fun st' i => K st' (.sl i))))
          | _, _ => False)
        | _, _, _ => False)
      | _ => sliceK tt st [] t x lo hi K)
    | some (.bx id off), none => (match chGet st.ch id with
      | .own t' α inh sz enc xs => (match (ttGet tt t).d, bndV st [] 0 lo, bndV st [] xs.length hi with
        | .arr n e, some l, some h => (match off, Nat.beq sz (ttGet tt e).size, knownD (ttGet tt e).d with
          | 0, true, true => (0 ≤ l ∧ l ≤ h ∧ h ≤ xs.length) ∧ 0 < xs.length ∧ xs.length = n ∧
             withCh st id (.rd α inh sz enc xs) (fun st1 => newCh st1 (.rd α inh sz enc (midL xs l.toNat h.toNat)) (fun st' i => K st' (.sl i)))
          | _, _, _ => False)
        | _, _, _ => False)
      | .bx _ cells => (match toDVs st cells with
        | some ds => withCh st id (.rp [] ds) (fun st1 => sliceK tt st1 [] t x lo hi K)
        | none => False)
      | _ => sliceK tt st [] t x lo hi K)
    | _, none => sliceK tt st [] t x lo hi K
    | _, _ => False)
  | .makeMap t r => GOp cf.P st (.makeMap t r) K
  | .lookup t x i b => GOp cf.P st (.lookup t x i b) K
  | .mapUpdate t m k x => GOp cf.P st (.mapUpdate t m k x) K
  | op => qop cf tt st [] op K

/-- operations that a guarded one may be without more ado -/
def calmB : Op → Bool
  | .call ⟨.builtin .append, _, _⟩ => false
  | .call ⟨.builtin _, _, _⟩ => true
  | .call _ => false
  | .alloc _ => false
  | .box _ _ => false
  | .store _ _ _ => false
  | .buildSlice _ _ _ => false
  | .makeSlice _ _ _ => false
  | .slice _ _ _ _ _ => false
  | .panic _ => false
  | .makeMap _ _ => false
  | .lookup _ _ _ _ => false
  | .mapUpdate _ _ _ _ => false
  | _ => true

/-- what is known under L, L being known -/
def relaxE (L : List (Nat × Bool)) : List Ent → List Ent
  | [] => []
  | ⟨s, L', v⟩ :: r => (match subL L' L with | true => ⟨s, [], v⟩ | false => ⟨s, L', v⟩) :: relaxE L r
def relax (st : St) (L : List (Nat × Bool)) : St :=
  match st with
  | ⟨n, env, ch, bs, ids⟩ => ⟨n, relaxE L env, ch, bs, ids⟩

def relaxEK (L : List (Nat × Bool)) : List Ent → (List Ent → Prop) → Prop
  | [], K => K []
  | ⟨s, L', v⟩ :: r, K => match subL L' L with | true => relaxEK L r (fun l => K (⟨s, [], v⟩ :: l)) | false => relaxEK L r (fun l => K (⟨s, L', v⟩ :: l))
theorem relaxEK_eq (L : List (Nat × Bool)) : ∀ (l : List Ent) (K : List Ent → Prop), relaxEK L l K = K (relaxE L l)
  | [], _ => rfl
  | ⟨s, L', v⟩ :: r, K => by
    simp only [relaxEK, relaxE]
    split <;> rw [relaxEK_eq L r]
def relaxK (st : St) (L : List (Nat × Bool)) (K : St → Prop) : Prop :=
  match st with
  | ⟨n, env, ch, bs, ids⟩ => relaxEK L env (fun env' => K ⟨n, env', ch, bs, ids⟩)
theorem relaxK_eq (st : St) (L : List (Nat × Bool)) (K : St → Prop) : relaxK st L K = K (relax st L) := by
  obtain ⟨n, env, ch, bs, ids⟩ := st
  simp only [relaxK, relax, relaxEK_eq]

/-- a call of yield -/
def yOf (st : St) : Op → Option (Nat × List SV)
  | .call ⟨.value (.tmp t), args, _⟩ => (match getV st [] (.tmp t), getVs st [] args.toList with
    | some (.v (.func (.yield l) c1 c2)), some vs => (match c1.toList, c2.toList with | [], [] => some (l, vs) | _, _ => none)
    | _, _ => none)
  | _ => none
def yieldK (cf : Cfg) (st : St) (l : Nat) (vs : List SV) (K : St → Bool → Prop) : Prop :=
  ∃ (id k : Nat), chGet st.ch id = .yk l true k ∧ Nat.blt id st.ch.length = true ∧ k < cf.yN ∧ (∀ ρ : Nat → Value, denL ρ vs = cf.yv k) ∧
    withCh st id (.yk l true (k + 1)) (fun st' => K st' true) ∧ withCh st id (.yk l false (k + 1)) (fun st' => K st' false)

def rops (cf : Cfg) (tt : TT) : List Oper → List Nat → St → (St → Prop) → (List PanicEntry → St → Prop) → Prop
  | [], _, st, K, _ => condOut st K
  | o :: r, i :: is, st, K, Kp => match condOf st.bs o.guard with
    | none => False
    | some [] => (match yOf st o.op with
      | some (l, vs) => yieldK cf st l vs (fun st' b => putK st' i o [] (.v (.bool b)) (fun st'' => rops cf tt r is st'' K Kp))
      | none => lop cf tt st o.op (fun st' s => putK st' i o [] s (fun st'' => rops cf tt r is st'' K Kp)) (fun ch st' => condOut st' (Kp ch)))
    | some L => match calmB o.op with
      | true => qop cf tt st L o.op (fun st' s => putK st' i o L s (fun st'' => rops cf tt r is st'' K Kp))
      | false => qop cf tt st L o.op (fun st' s => putK st' i o L s (fun st'' => rops cf tt r is st'' K Kp)) ∨
          (holds st.bs L ∧ relaxK st L (fun st1 => lop cf tt st1 o.op (fun st' s => putK st' i o [] s (fun st'' => rops cf tt r is st'' K Kp)) (fun ch st' => condOut st' (Kp ch)))) ∨
          (¬ holds st.bs L ∧ ∃ x : Value, putK st i o L (.v x) (fun st'' => rops cf tt r is st'' K Kp))
  | _ :: _, [], _, _, _ => False

def seqL (md : Region.Mode) (ops : Array Oper) : List Nat → Array Bool → Bool
  | [], listed => (Region.ready md ops listed).isEmpty
  | k :: r, listed => decide (Region.ready md ops listed = [k]) && seqL md ops r (listed.setIfInBounds k true)

/-- in a list of operations 100000 + 1000 i + j names two, which come up in either order -/
def pairOf (k : Nat) : Option (Nat × Nat) :=
  match Nat.ble 100000 k with
  | true => some (Nat.div (Nat.sub k 100000) 1000, Nat.mod (Nat.sub k 100000) 1000)
  | false => none
def flatP : List Nat → List Nat
  | [] => []
  | k :: r => match pairOf k with
    | some (i, j) => i :: j :: flatP r
    | none => k :: flatP r
/-- the head, in the order k :: r; 'ms': its operations that make memory -/
def mixFrom (md : Region.Mode) (ops : Array Oper) (ms τ : List Nat) : List Nat → Array Bool → Bool
  | [], listed => seqL md ops τ listed
  | k :: r, listed => match pairOf k with
    | some (i, j) => (decide (Region.ready md ops listed = [i, j]) && (decide (Region.ready md ops (listed.setIfInBounds i true) = [j]) && decide (Region.ready md ops (listed.setIfInBounds j true) = [i]))) && mixFrom md ops ms τ r ((listed.setIfInBounds i true).setIfInBounds j true)
    | none => (match ms.contains k with
      | true => decide (Region.ready md ops listed = [k])
      | false => (Region.ready md ops listed).contains k && Region.free md ops listed k) && mixFrom md ops ms τ r (listed.setIfInBounds k true)

def sinkL (md : Region.Mode) (ops : Array Oper) (t0 : Nat) : List Nat → Bool
  | [] => true
  | i :: r => (t0 :: r).any (fun j => Region.waitsFor md ops j i) && sinkL md ops t0 r
def chainL (md : Region.Mode) (ops : Array Oper) : List Nat → Bool
  | [] => true
  | [_] => true
  | t :: t' :: r => Region.waitsFor md ops t' t && chainL md ops (t' :: r)

def tailB (md : Region.Mode) (ops : Array Oper) (π : List Nat) : List Nat → Bool
  | [] => true
  | t0 :: r => sinkL md ops t0 π && chainL md ops (t0 :: r)

def mixB (md : Region.Mode) (ops : Array Oper) (π ms τ : List Nat) : Bool :=
  Region.noSelect ops && (List.range ops.size).all (fun i => (flatP π).contains i || τ.contains i) && (flatP π).all (fun i => !τ.contains i) &&
    tailB md ops (flatP π) τ && Nat.beq ((flatP π).length + τ.length) ops.size && mixFrom md ops ms τ π (Array.replicate ops.size false)

/-- a call that hands back anything, and keeps all that was there -/
def MCall (P : Program) (st : St) (f : Nat) (args : List SV) (K : St → SV → Prop) (Kp : List PanicEntry → St → Prop := fun _ _ => False) : Prop :=
  ∀ ρ S w, MemOk st ρ S w → Calls P f (denL ρ args).toArray w fun e w' =>
    (∃ st' s ρ' S', e = .returned (den ρ' s) ∧ Adv st st' ρ ρ' S S' w w' ∧ svOk st'.ch s ∧ Below w.heap.size w w' ∧ K st' s) ∨
    (∃ pc st' ρ' S', e = .panicked pc ∧ Adv st st' ρ ρ' S S' w w' ∧ Below w.heap.size w w' ∧ Kp pc st')

def dstL : List Oper → Nat → Bool
  | [], _ => false
  | o :: r, d => match o.dst with
    | none => dstL r d
    | some e => match Nat.beq e d with | true => true | false => dstL r d
/-- what is left of the state when an operation of a region that draws panics: what was known ahead of the region -/
def panE (l : List Oper) : List Ent → (List Ent → Prop) → Prop
  | [], K => K []
  | ⟨d, L, s⟩ :: r, K => match dstL l d with
    | false => panE l r (fun r' => K (⟨d, L, s⟩ :: r'))
    | true => panE l r K
def panK (l : List Oper) (st : St) (K : St → Prop) : Prop :=
  match st with
  | ⟨n, env, ch, bs, ids⟩ => match bs with
    | [] => panE l env (fun env' => K ⟨n, env', ch, [], ids⟩)
    | _ => False

def mop (cf : Cfg) (st : St) (op : Op) (K : St → SV → Prop) (Kp : List PanicEntry → St → Prop) : Prop :=
  match op with
  | .call ⟨.value (.func f), args, _⟩ => (match hasN cf.fns f, getVs st [] args.toList with
    | true, some l => MCall cf.P st f l K Kp
    | _, _ => False)
  | .alloc t => lop cf cf.tt st (.alloc t) K (fun _ _ => False)
  | .box t x => lop cf cf.tt st (.box t x) K (fun _ _ => False)
  | .buildSlice t n parts => lop cf cf.tt st (.buildSlice t n parts) K (fun _ _ => False)
  | _ => False

/-- the head of a region that draws: quiet operations, and those of 'ms', which make memory -/
def mops (cf : Cfg) (tt : TT) (l : List Oper) (ms : List Nat) (Kp : List PanicEntry → St → Prop) : List Nat → St → (St → Prop) → Prop
  | [], st, K => K st
  | i :: r, st, K => match pairOf i, dropL l i with
    | some _, _ => False
    | none, [] => False
    | none, o :: _ => match condOf st.bs o.guard with
      | none => False
      | some L => match ms.contains i with
        | false => qop cf tt st L o.op (fun st' s => putK st' i o L s (fun st'' => mops cf tt l ms Kp r st'' K))
        | true => match L with
          | [] => mop cf st o.op (fun st' s => putK st' i o [] s (fun st'' => mops cf tt l ms Kp r st'' K)) (fun pc st' => panK l st' (Kp pc))
          | L => (holds st.bs L ∧ relaxK st L (fun st1 => mop cf st1 o.op (fun st' s => putK st' i o [] s (fun st'' => mops cf tt l ms Kp r st'' K)) (fun pc st' => panK l st' (Kp pc)))) ∨
              (¬ holds st.bs L ∧ ∃ x : Value, putK st i o L (.v x) (fun st'' => mops cf tt l ms Kp r st'' K))

def catN : List Nat → List Nat → List Nat
  | [], b => b
  | a :: r, b => a :: catN r b
theorem catN_eq : ∀ a b, catN a b = a ++ b
  | [], _ => rfl
  | a :: r, b => by simp [catN, catN_eq r b]
/-! a region that draws, in which one call writes a box beside operations that do not look at what it writes -/
def maskC (mk : List Nat) (xs : Nat → Value) : Nat → List SV → List SV
  | _, [] => []
  | j, s :: r => (match hasN mk j with | true => .v (xs j) | false => s) :: maskC mk xs (j + 1) r
/-- some chunks' cells not known, or all of a chunk -/
def maskK : List (Nat × Option (List Nat)) → (Nat → Nat → Value) → List Chunk → (List Chunk → Prop) → Prop
  | [], _, ch, K => K ch
  | (id, how) :: r, xs, ch, K => match Nat.blt id ch.length with
    | true => (match how with
      | none => setK ch id .dead (fun ch' => maskK r xs ch' K)
      | some mk => (match chGet ch id with
        | .bx t cells => setK ch id (.bx t (maskC mk (xs id) 0 cells)) (fun ch' => maskK r xs ch' K)
        | _ => False))
    | false => False
def inSt (st : St) (ch : List Chunk) : St := match st with | ⟨n, env, _, bs, ids⟩ => ⟨n, env, ch, bs, ids⟩
def fops (cf : Cfg) (tt : TT) (l : List Oper) (cs : List Nat) (mks : List (Nat × Option (List Nat))) : List Nat → St → (St → Prop) → Prop
  | [], st, K => K st
  | i :: r, st, K => match dropL l i, (match pairOf i with | some _ => true | none => hasN cs i) with
    | o :: _, false => (match condOf st.bs o.guard with
      | none => False
      | some L => ∃ s : SV, (qop cf tt st L o.op (fun st' s' => s' = s ∧ st'.ch.length = st.ch.length)) ∧ (∀ xs : Nat → Nat → Value, maskK mks xs st.ch (fun ch' => qop cf tt (inSt st ch') L o.op (fun st' s' => s' = s ∧ st'.ch.length = ch'.length))) ∧ putK st i o L s (fun st'' => fops cf tt l cs mks r st'' K))
    | _, _ => False
def relM (mks : List (Nat × Option (List Nat))) (ch ch1 : List Chunk) : Prop := ∀ xs : Nat → Nat → Value, maskK mks xs ch (fun ch' => maskK mks xs ch1 (fun ch1' => takeL ch1' ch.length = ch'))
def noCnd : List Chunk → Bool
  | [] => true
  | c :: r => match c with
    | .cnd .. => false
    | .rp L _ => (match L with | [] => noCnd r | _ => false)
    | _ => noCnd r
/-- a method of an interface value, called -/
def invokeK (cf : Cfg) (st : St) (x : Operand) (name : String) (args : Array Operand) (K : St → SV → Prop) (Kp : List PanicEntry → St → Prop) : Prop :=
  match getV st [] x, getVs st [] args.toList with
  | some (.v (.iface t v)), some l => ∃ (f : Nat) (r : Value), hasN cf.fns f = true ∧ (∀ w, (method (cf.P.types.size + Made.depth) t v name).run cf.P w = .ok (f, r) w) ∧ LCall cf.P st f (.v r :: l) K Kp
  | _, _ => False
/-- a writer beside quiet operations: if it is a call it may panic -/
def cop (cf : Cfg) (tt : TT) (l : List Oper) (st : St) (op : Op) (K : St → SV → Prop) (Kp : List PanicEntry → St → Prop) : Prop :=
  match op with
  | .call ⟨.invoke x name, args, _⟩ => invokeK cf st x name args K (fun pc st' => panK l st' (Kp pc))
  | .call ⟨.value (.func f), args, ts⟩ => (match hasN cf.fns f, getVs st [] args.toList with
    | true, some l' => (∃ r : Value, QCall cf.P st f l' r ∧ K st (.v r)) ∨ LCall cf.P st f l' K (fun pc st' => panK l st' (Kp pc))
    | _, _ => lop cf tt st (.call ⟨.value (.func f), args, ts⟩) K (fun _ _ => False))
  | .call ⟨.value (.tmp t), args, ts⟩ => (match getV st [] (.tmp t), getVs st [] args.toList with
    | some (.mv f first caps), some l' => (match hasN cf.fns f with
      | true => LCall cf.P st f (first ++ (l' ++ caps)) K (fun pc st' => panK l st' (Kp pc))
      | false => False)
    | _, _ => lop cf tt st (.call ⟨.value (.tmp t), args, ts⟩) K (fun _ _ => False))
  | op => lop cf tt st op K (fun _ _ => False)
/-- an operation whose value needs no memory -/
def calmK (st : St) (op : Op) (K : SV → Prop) : Prop :=
  match op with
  | .move x => (match getV st [] x with | some s => K s | none => False)
  | .assign x => (match getV st [] x with | some s => K s | none => False)
  | .extract x i => (match getV st [] x with
    | some (.tup l) => (match dropL l i with | s :: _ => K s | [] => False)
    | some (.v (.tuple vs)) => (match dropL vs.toList i with | v :: _ => K (.v v) | [] => False)
    | _ => False)
  | _ => False
/-- in the list of the writers c + 1000 names an operation c that needs no memory and may come up in any order -/
def plainN : List Nat → List Nat
  | [] => []
  | c :: r => (match pairOf c with | some _ => c | none => match Nat.ble 1000 c with | true => Nat.sub c 1000 | false => c) :: plainN r
def forcedN : List Nat → List Nat
  | [] => []
  | c :: r => match Nat.ble 1000 c with | true => forcedN r | false => c :: forcedN r
def cop1 (cf : Cfg) (tt : TT) (l : List Oper) (mks : List (Nat × Option (List Nat))) (Kp : List PanicEntry → St → Prop) (ch0 : List Chunk) (c : Nat) (st : St) (K : St → Prop) : Prop :=
  match dropL l c with
  | [] => False
  | o :: _ => (match o.guard with
    | some _ => False
    | none => cop cf tt l st o.op (fun st1 s => noCnd st1.ch = true ∧ relM mks ch0 st1.ch ∧ putK st1 c o [] s K) Kp)
def cops (cf : Cfg) (tt : TT) (l : List Oper) (mks : List (Nat × Option (List Nat))) (Kp : List PanicEntry → St → Prop) (ch0 : List Chunk) : List Nat → St → (St → Prop) → Prop
  | [], st, K => K st
  | c :: r, st, K => match pairOf c with
    | some (i, j) => cop1 cf tt l mks Kp ch0 i st (fun st1 => cop1 cf tt l mks Kp ch0 j st1 (fun st2 => cops cf tt l mks Kp ch0 r st2 K)) ∧
        cop1 cf tt l mks Kp ch0 j st (fun st1 => cop1 cf tt l mks Kp ch0 i st1 (fun st2 => cops cf tt l mks Kp ch0 r st2 K))
    | none => match Nat.ble 1000 c with
      | true => (match dropL l (Nat.sub c 1000), pairOf (Nat.sub c 1000) with
        | o :: _, none => (match o.guard with
          | some _ => False
          | none => calmK st o.op (fun s => putK st (Nat.sub c 1000) o [] s (fun st2 => cops cf tt l mks Kp ch0 r st2 K)))
        | _, _ => False)
      | false => cop1 cf tt l mks Kp ch0 c st (fun st2 => cops cf tt l mks Kp ch0 r st2 K)

def opsAt (l : List Oper) : List Nat → Option (List Oper)
  | [] => some []
  | i :: r => match dropL l i, opsAt l r with | o :: _, some lo => some (o :: lo) | _, _ => none

/-! ### loops: one state entails another, its chunks numbered anew by m -/
def renN (m : List Nat) (i : Nat) : Nat := match dropL m i with | x :: _ => x | [] => 0
mutual
def ren (m : List Nat) : SV → SV
  | .v x => .v x
  | .bx id off => (match Nat.ble 1000 (renN m id) with | true => .v undef | false => .bx (renN m id) off)
  | .el id sz i off => (match Nat.ble 1000 (renN m id) with | true => .v undef | false => .el (renN m id) sz i off)
  | .sl id => (match Nat.ble 1000 (renN m id) with | true => .v (.slice none 0 0) | false => .sl (renN m id))
  | .agg l => .agg (renL m l)
  | .tup l => .tup (renL m l)
  | .fn f l => .fn f (renL m l)
  | .mv f l1 l2 => .mv f (renL m l1) (renL m l2)
  | .junk => .junk
def renL (m : List Nat) : List SV → List SV
  | [] => []
  | s :: r => ren m s :: renL m r
end
mutual
def idsOk (ch : List Chunk) : SV → Bool
  | .v _ => true
  | .bx id _ => Nat.blt id ch.length
  | .el _ _ _ _ => false
  | .sl id => Nat.blt id ch.length
  | .agg l => idsOkL ch l
  | .tup l => idsOkL ch l
  | .fn _ l => idsOkL ch l
  | .mv _ l1 l2 => (match idsOkL ch l1 with | true => idsOkL ch l2 | false => false)
  | .junk => true
def idsOkL (ch : List Chunk) : List SV → Bool
  | [] => true
  | s :: r => match idsOk ch s with | true => idsOkL ch r | false => false
end

def envLe (env : List Ent) (m : List Nat) (ch : List Chunk) : List Ent → Prop
  | [] => True
  | ⟨s, [], v⟩ :: r => (match lookE env s, idsOk ch v with
    | some ⟨_, [], v0⟩, true => v0 = ren m v ∧ envLe env m ch r
    | _, _ => False)
  | _ :: _ => False

/-- a slice of one's own; one written out in the text may be taken for one -/
def rawOwn (c : Chunk) (t' : TypeId) (α : Type) (inh : Inhabited α) (sz' : Nat) (enc : α → List DV) (xs : List α) : Prop :=
  match c with
  | .raw t n sz cells => t = t' ∧ Nat.ble n 16777216 = true ∧ rowsAs ⟨0, [], [], [], []⟩ (.raw t n sz cells) α inh sz' enc xs
  | c => c = .own t' α inh sz' enc xs
def chunkLe (m : List Nat) (ch : List Chunk) (c c' : Chunk) : Prop :=
  match c' with
  | .dead => True
  | .yk l' go' k' => c = .yk l' go' k'
  | .bx t' cells' => (match c, idsOkL ch cells' with
    | .bx t cells, true => t = t' ∧ cells = renL m cells'
    | _, _ => False)
  | .raw t' n' sz' cells' => (match c, idsOkL ch cells' with
    | .raw t n sz cells, true => t = t' ∧ n = n' ∧ sz = sz' ∧ cells = renL m cells'
    | _, _ => False)
  | .cnd .. => False
  | .own t' α' inh' sz' enc' xs' => rawOwn c t' α' inh' sz' enc' xs'
  | .rd α' inh' sz' enc' xs' => c = .rd α' inh' sz' enc' xs'
  | .rp L' cells' => c = .rp L' cells' ∧ L' = []
  | .glb g' cells' => c = .glb g' cells'
  | .ob ok' => (match c with | .ob ok => ∀ o, ok o → ok' o | _ => False)

/-- a nil slice, taken for one of one's own -/
def nilOwn : Chunk → Prop
  | .own _ _ _ _ _ xs => xs = []
  | _ => False

def chsLe (ch : List Chunk) (m : List Nat) (ch' : List Chunk) : List Nat → List Chunk → Prop
  | [], [] => True
  | i :: is, c :: cs => (match Nat.ble 1000 i with
    | true => nilOwn c ∧ chsLe ch m ch' is cs
    | false => (match Nat.blt i ch.length with | true => chunkLe m ch' (chGet ch i) c ∧ chsLe ch m ch' is cs | false => False))
  | _, _ => False

def nodupN : List Nat → Bool
  | [] => true
  | a :: r => match hasN r a with | true => false | false => nodupN r

def eqN : List Nat → List Nat → Bool
  | [], [] => true
  | a :: r, b :: s => match Nat.beq a b with | true => eqN r s | false => false
  | _, _ => false

/-- st entails st' -/
def Ent' (k : Nat) (m : List Nat) (st st' : St) : Prop :=
  match nodupN m, eqN (takeL m k) (takeL nats k), Nat.beq st.n st'.n, st'.bs with
  | true, true, true, [] => envLe st.env m st'.ch st'.env ∧ chsLe st.ch m st'.ch m st'.ch
  | _, _, _, _ => False

/-- a piece of code does, from a state on, what is said of its ends -/
structure Ctx where
  wE : World
  F : Nat → Prop
  k : Nat
  ρ0 : Nat → Value
  /-- the deferred calls that were there -/
  dd : List Deferred := []
  /-- of an iterator: the loop's number, what its rounds keep, what is said of the rounds -/
  l : Nat := 0
  G : Nat → Prop := fun _ => False
  J : Bool → (Nat → Prop) → Nat → World → Prop := fun _ _ _ _ => True
  S0 : Nat → Prop := fun _ => True

structure Inv (cx : Ctx) (st : St) (ρ : Nat → Value) (S : Nat → Prop) (w : World) : Prop where
  mem : MemOk st ρ S w
  frm : ∀ b, cx.F b → b < cx.wE.heap.size ∧ w.heap[b]? = cx.wE.heap[b]? ∧ ∀ i, i < st.ch.length → ownBlk (chGet st.ch i) (ρ i) ≠ some b
  size : cx.wE.heap.size ≤ w.heap.size
  os : w.os = cx.wE.os
  tape : w.tape = cx.wE.tape
  output : w.output = cx.wE.output
  kle : cx.k ≤ st.ch.length
  anch : ∀ id, id < cx.k → ρ id = cx.ρ0 id
  yl : ∀ id l go n, chGet st.ch id = .yk l go n → l = cx.l ∧ ∃ U, cx.J go U n w ∧ (∀ b, U b → b < w.heap.size ∧ ∀ i, i < st.ch.length → ownBlk (chGet st.ch i) (ρ i) ≠ some b) ∧ ∀ b, S b → cx.G b ∨ ¬ U b
  one : ∀ i j li gi ni lj gj nj, chGet st.ch i = .yk li gi ni → chGet st.ch j = .yk lj gj nj → i = j
  sf : ∀ b, cx.F b → S b → cx.S0 b

/-- the deferred calls: marks of loops, and those that were there -/
def DefOk (cx : Ctx) (st : St) (ρ : Nat → Value) (S : Nat → Prop) (w : World) (dl : List Deferred) : Prop :=
  ∃ Ds : List Nat, dl = (Ds.map fun D => ({ target := .collected D, args := #[] } : Deferred)) ++ cx.dd ∧ Ds.Nodup ∧ (Ds ≠ [] → ∀ id l go n, chGet st.ch id ≠ .yk l go n) ∧
    ∀ D ∈ Ds, w.heap[D]? = some (.deferred (some [])) ∧ cx.wE.heap.size ≤ D ∧ ¬ S D ∧ ∀ i, i < st.ch.length → ownBlk (chGet st.ch i) (ρ i) ≠ some D

def Stab (J : (Nat → Prop) → Nat → World → Prop) : Prop := ∀ U k W W', J U k W → (∀ b, U b → W'.heap[b]? = W.heap[b]?) → W.heap.size ≤ W'.heap.size → W'.os = W.os → W'.tape = W.tape → W'.output = W.output → J U k W'

/-- what a round does to memory -/
structure RoundR (G U : Nat → Prop) (W W' : World) : Prop where
  size : W.heap.size ≤ W'.heap.size
  os : W'.os = W.os
  tape : W'.tape = W.tape
  output : W'.output = W.output
  keep : ∀ b, G b → W'.heap[b]? = W.heap[b]?
  oth : ∀ b, b < W.heap.size → ¬ U b → W'.heap[b]? = W.heap[b]?

structure CxOk (cf : Cfg) (cx : Ctx) : Prop where
  stab : ∀ go, Stab (cx.J go)
  FG : 0 < cf.yN → ∀ b, cx.F b → cx.G b
  yield : ∀ U k W1, cx.J true U k W1 → k < cf.yN → YieldAt Fence.wide 0 cf.P cx.l (cf.yv k).toArray W1 fun e W' => RoundR cx.G U W1 W' ∧
    ∃ U', (∀ b, U' b → b < W'.heap.size ∧ (U b ∨ W1.heap.size ≤ b)) ∧ ((e = .returned (.bool true) ∧ cx.J true U' (k + 1) W') ∨ (e = .returned (.bool false) ∧ cx.J false U' (k + 1) W'))

def Sat (cx : Ctx) (st : St) (a : Act) (w : World) : Prop := ∃ ρ S, (∀ ops, EnvOk ops st ρ a) ∧ st.bs = [] ∧ Inv cx st ρ S w ∧ DefOk cx st ρ S w a.defers

def Good (cf : Cfg) (k : Nat) (c : Code) (st : St) (K : Exit → St → Prop) : Prop :=
  ∀ (cx : Ctx) (Q : Exit → Act → World → Prop), CxOk cf cx → cx.k = k → (∀ e st' a w, K e st' → Sat cx st' a w → Q e a w) → ∀ a w, Sat cx st a w → c.wp cf.P Q a w

/-- the head of a region that draws: it only reads, and calls nothing -/
def hops (cf : Cfg) (tt : TT) : List Oper → List Nat → St → (St → List Nat → Prop) → Prop
  | [], is, st, K => K st is
  | o :: r, i :: is, st, K => match condOf st.bs o.guard, noCallB o.op with
    | some L, true => qop cf tt st L o.op (fun st' s => putK st' i o L s (fun st'' => hops cf tt r is st'' K))
    | _, _ => False
  | _ :: _, [], _, _ => False

def noYk : List Chunk → Bool
  | [] => true
  | c :: r => match c with | .yk _ _ _ => false | _ => noYk r
def noDefL : List Oper → Bool
  | [] => true
  | o :: r => match o.op with | .defer _ => false | _ => noDefL r

/-- the loop's left sides get what is yielded -/
def putPsK : List Nat → List DV → List Ent → List Chunk → (List Ent → List Chunk → Prop) → Prop
  | [], [], env, ch, K => K env ch
  | p :: ps, d :: ds, env, ch, K => (match d with
    | .v v => putPsK ps ds (⟨p, [], .v v⟩ :: env) ch K
    | .sl α inh sz enc xs => snocK ch (.rd α inh sz enc xs) (fun ch' => putPsK ps ds (⟨p, [], .sl ch.length⟩ :: env) ch' K)
    | .ptr cells => snocK ch (.rp [] cells) (fun ch' => putPsK ps ds (⟨p, [], .bx ch.length 0⟩ :: env) ch' K))
  | _, _, _, _, _ => False
/-- what is yielded, as data -/
def repY (S : Nat → Prop) (w : World) : DV → Value → Prop
  | .v v, u => u = v
  | d, u => DRep S w d u
def repYs (S : Nat → Prop) (w : World) : List DV → List Value → Prop
  | [], [] => True
  | d :: ds, u :: us => repY S w d u ∧ repYs S w ds us
  | _, _ => False
mutual
def idsK (k : Nat) : SV → Bool
  | .v _ => true
  | .bx id _ => Nat.blt id k
  | .el _ _ _ _ => false
  | .sl id => Nat.blt id k
  | .agg l => idsKL k l
  | .tup l => idsKL k l
  | .fn _ l => idsKL k l
  | .mv _ l1 l2 => (match idsKL k l1 with | true => idsKL k l2 | false => false)
  | .junk => true
def idsKL (k : Nat) : List SV → Bool
  | [] => true
  | s :: r => match idsK k s with | true => idsKL k r | false => false
end
def envK (k : Nat) : List Ent → Bool
  | [] => true
  | ⟨_, [], v⟩ :: r => (match idsK k v with | true => envK k r | false => false)
  | _ :: _ => false

/-- an iterator: it yields N times, if it is let go on; 'G': what its rounds keep -/
def IterX (P : Program) (g : Nat) (lb : Array Value) (N : Nat) (vals : Nat → Array Value) (G : Nat → Prop) (w : World) : Prop :=
  ∀ (l : Nat) (J : Bool → (Nat → Prop) → Nat → World → Prop) (W : World),
    (∀ b, G b → b < w.heap.size) → (∀ b, b < w.heap.size → W.heap[b]? = w.heap[b]?) → w.heap.size ≤ W.heap.size → W.os = w.os → W.tape = w.tape → W.output = w.output →
    (∀ go, Stab (J go)) →
    (∀ U k W1, J true U k W1 → k < N → YieldAt Fence.wide 0 P l (vals k) W1 fun e W' => RoundR G U W1 W' ∧
      ∃ U', (∀ b, U' b → b < W'.heap.size ∧ (U b ∨ W1.heap.size ≤ b)) ∧ ((e = .returned (.bool true) ∧ J true U' (k + 1) W') ∨ (e = .returned (.bool false) ∧ J false U' (k + 1) W'))) →
    (∃ U0, (∀ b, U0 b → b < W.heap.size) ∧ J true U0 0 W) →
    CallsIn Fence.wide 0 P g (#[.func (.yield l) #[] #[]] ++ lb) W fun e W' => (∃ v, e = .returned v) ∧ ((∃ U, J true U N W') ∨ ∃ U k, k ≤ N ∧ J false U k W')

@[reducible] def drawK (a b c d : Prop) : Prop := a ∨ b ∨ c ∨ d

def exec (cf : Cfg) (k : Nat) : Code → St → (Exit → St → Prop) → Prop
  | .skip, st, K => K .normal st
  | .label _, st, K => K .normal st
  | .ret, st, K => K .ret st
  | .exit id, st, K => K (.exit id) st
  | .goto l, st, K => K (.goto l) st
  | .region _ ops draw, st, K => (match draw with
    | false => rops cf cf.tt ops.toList nats st (K .normal) (fun ch => K (.panic ch))
    | true => (match noDefL ops.toList with
      | false => False
      | true => drawK (Region.lexB .any ops = true ∧ qops cf cf.tt ops.toList nats st (K .normal))
        (∃ n, Region.lexTailB .any ops n = true ∧ hops cf cf.tt (takeL ops.toList n) nats st (fun st' is => rops { cf with yN := 0 } cf.tt (dropL ops.toList n) is st' (K .normal) (fun ch => K (.panic ch))))
        (∃ (π ms τ : List Nat), mixB .any ops π ms τ = true ∧ mops cf cf.tt ops.toList ms (fun ch => K (.panic ch)) π st (fun st' => match opsAt ops.toList τ with | some lo => rops { cf with yN := 0 } cf.tt lo τ st' (K .normal) (fun ch => K (.panic ch)) | none => False))
        (∃ (π cs τ : List Nat) (mks : List (Nat × Option (List Nat))), mixB .any ops (catN π (plainN cs)) (forcedN cs) τ = true ∧ fops cf cf.tt ops.toList (forcedN cs) mks π st (fun st' => cops cf cf.tt ops.toList mks (fun ch => K (.panic ch)) st'.ch cs st' (fun st2 => match opsAt ops.toList τ with | some lo => rops { cf with yN := 0 } cf.tt lo τ st2 (K .normal) (fun ch => K (.panic ch)) | none => False)))))
  | .seq a b, st, K => exec cf k a st (fun e st' => match e with | .normal => exec cf k b st' K | e => K e st')
  | .cond c a b, st, K => (match getV st [] c with
    | some (.v (.bool t)) => (t = true → exec cf k a st K) ∧ (t = false → exec cf k b st K)
    | _ => False)
  | .block id b, st, K => exec cf k b st (fun e st' => match e with
    | .exit id' => (match Nat.beq id' id with | true => K .normal st' | false => K (.exit id') st')
    | e => K e st')
  | .loop b, st, K => ∃ (ι : Type) (mk : ι → St) (μ : ι → Nat), (∃ (m : List Nat) (i0 : ι), Ent' k m st (mk i0)) ∧
      ∀ i, exec cf k b (mk i) (fun e st' => match e with
        | .normal => ∃ (m : List Nat) (i' : ι), Ent' k m st' (mk i') ∧ μ i' < μ i
        | e => K e st')
  | .rangeFunc f ps assign b, st, K => (match cf.rd, getV st [] f with
    | false, some (.fn g caps) => (match hasN cf.fns g with
      | true => ∃ (N : Nat) (dvs : Nat → List DV) (k0 : Nat) (env0 : List Ent) (ι : Type) (mk : ι → List Chunk) (cnt : ι → Nat),
          (∀ ρ S w, MemOk st ρ S w → ∃ vals : Nat → List Value, (∀ j, j < N → repYs S w (dvs j) (vals j)) ∧ IterX cf.P g (denL ρ caps).toArray N (fun j => (vals j).toArray) S w) ∧ (∀ j, (dvs j).length = ps.size) ∧
          Nat.ble k k0 = true ∧ envK k0 env0 = true ∧ (∀ i, noYk (mk i) = true) ∧ (∀ i, Nat.ble k0 (mk i).length = true) ∧ Nat.ble k0 300 = true ∧ (ps.toList.all fun p => Nat.blt p st.n) = true ∧
          (∃ (m : List Nat) (i0 : ι), cnt i0 = 0 ∧ Ent' k m st ⟨st.n, env0, mk i0, [], []⟩) ∧
          (∀ i, cnt i < N → putPsK ps.toList (dvs (cnt i)) env0 (mk i) (fun env1 ch1 => exec { cf with rd := true, yN := 0 } k0 assign ⟨st.n, env1, ch1, [], dropL nats ch1.length⟩ (fun e st1 => match e with
              | .normal => exec { cf with rd := true, yN := 0 } k0 b st1 (fun e st2 => match e with
                | .normal => ∃ (m : List Nat) (i' : ι), cnt i' = cnt i + 1 ∧ Ent' k0 m ⟨st.n, env0, st2.ch, [], []⟩ ⟨st.n, env0, mk i', [], []⟩
                | .ret => K .ret ⟨st.n, env0, st2.ch, [], st2.ids⟩
                | .exit id => K (.exit id) ⟨st.n, env0, st2.ch, [], st2.ids⟩
                | .goto l => K (.goto l) ⟨st.n, env0, st2.ch, [], st2.ids⟩
                | _ => False)
              | _ => False))) ∧
          ∀ i, cnt i = N → K .normal ⟨st.n, env0, mk i, [], dropL nats (mk i).length⟩
      | false => False)
    | _, _ => False)
  | .scope b, st, K => (match cf.rd with
    | true => False
    | false => exec cf k b st (fun e st' => match e with | .goto _ => False | e => K e st') ∨
      ∃ (l : Nat) (rest : Code) (ι : Type) (mk : ι → St) (μ : ι → Nat), findLabel b l = some rest ∧
        exec cf k b st (fun e st' => match e with | .goto l' => l' = l ∧ ∃ (m : List Nat) (i0 : ι), Ent' k m st' (mk i0) | e => K e st') ∧
        ∀ i, Good cf k rest (mk i) (fun e st' => match e with | .goto l' => l' = l ∧ ∃ (m : List Nat) (i' : ι), Ent' k m st' (mk i') ∧ μ i' < μ i | e => K e st'))
  | _, _, _ => False
end Go.Eng
