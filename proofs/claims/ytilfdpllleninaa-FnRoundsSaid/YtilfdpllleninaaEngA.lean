/- The engine, part A: abstract values, canonical floats, the pure evaluator of the model's operations. Nothing here is trusted: part B proves it sound. -/
import Derived.Calls
import Derived.Orders
import Derived.LoopN
import Derived.Below
import Derived.KernelRfl
import Derived.Laws.AppendOwn
import Derived.Laws.MakeOwn
import Derived.Laws.FloatArith
import Derived.Laws.CopyRow
import Derived.Laws.Rows
namespace Go.Proofs.Ytilfdpllleninaa
set_option linter.unusedVariables false
set_option linter.unusedSimpArgs false

/-! ## Canonical floats: every not-a-number is one value -/

def isNaN (k : FloatKind) (b : Nat) : Bool := (k.format.read b).isNaN
def qnan : FloatKind → Nat
  | .f32 => 2143289344
  | .f64 => 9221120237041090560
def canon (k : FloatKind) (b : Nat) : Nat := bif isNaN k b then qnan k else b
def fopt (k : FloatKind) : Option Nat → Nat
  | some r => canon k r
  | none => qnan k
def fadd (k : FloatKind) (x y : Nat) : Nat := fopt k (k.format.add x y)
def fsub (k : FloatKind) (x y : Nat) : Nat := fopt k (k.format.sub x y)
def fmul (k : FloatKind) (x y : Nat) : Nat := fopt k (k.format.mul x y)
def fdiv (k : FloatKind) (x y : Nat) : Nat := fopt k (k.format.div x y)
def fneg (k : FloatKind) (x : Nat) : Nat := canon k (Op.negFloat k x)
def fsqrt (x : Nat) : Nat := fopt .f64 (FloatKind.f64.format.sqrt x)
def feq (k : FloatKind) (x y : Nat) : Bool := k.format.order x y == some .eq
def fne (k : FloatKind) (x y : Nat) : Bool := k.format.order x y != some .eq
def flt (k : FloatKind) (x y : Nat) : Bool := k.format.order x y == some .lt
def fle (k : FloatKind) (x y : Nat) : Bool := k.format.order x y == some .lt || k.format.order x y == some .eq
def fgt (k : FloatKind) (x y : Nat) : Bool := k.format.order x y == some .gt
def fge (k : FloatKind) (x y : Nat) : Bool := k.format.order x y == some .gt || k.format.order x y == some .eq
/-- From one float kind to another; 'fconvOk' is false where the model lets the tape answer (a finite number too great for the narrower kind). -/
def fconv (s : FloatKind) (x : Nat) (d : FloatKind) : Nat :=
  match s.decode x with
  | .nan _ _ => qnan d
  | .infinity n => canon d (d.encode (.infinity n))
  | .number n m e => canon d (d.encode (.number n m e))
def fconvOk (s : FloatKind) (x : Nat) (d : FloatKind) : Bool :=
  match s.decode x with
  | .number n m e => !(d.decode (d.encode (.number n m e))).isInfinity
  | _ => true
def fofInt (k : FloatKind) (n : Int) : Nat := canon k (k.nearest n)
def ftoInt (s : FloatKind) (x : Nat) : Int := ((s.decode x).toInt .zero).getD 0
def ftoIntOk (s : FloatKind) (x : Nat) (k : IntKind) : Bool :=
  match (s.decode x).toInt .zero with
  | some n => decide (k.min ≤ n) && decide (n ≤ k.max)
  | none => false
def fintegral (way : Ieee.Toward) (x : Nat) : Nat :=
  match FloatKind.f64.decode x with
  | .nan _ _ => qnan .f64
  | d => canon .f64 (FloatKind.f64.encode (d.integral way))

/-! ## Typed contents of slices -/

structure Vec where
  X : Nat
  Y : Nat
  Z : Nat
structure Body where
  At : Vec
  Speed : Vec
  Mass : Nat
structure Orbit where
  Long : Nat
  Round : Nat
  Tilt : Nat
  Node : Nat
  Peri : Nat
  Phase : Nat
structure Entry where
  Name : List UInt8
  Mass : Nat
  Orb : Orbit
structure Ball where
  Mass : Nat
  Radius : Nat
  Spin : Nat
  Start : Nat
structure Mark where
  North : Nat
  East : Nat
  High : Nat
structure Look where
  Time : Nat
  Right : Nat
  Up : Nat
  Far : Nat
  Weight : Nat

instance : Inhabited Vec := ⟨⟨0, 0, 0⟩⟩
instance : Inhabited Body := ⟨⟨default, default, 0⟩⟩
instance : Inhabited Orbit := ⟨⟨0, 0, 0, 0, 0, 0⟩⟩
instance : Inhabited Entry := ⟨⟨[], 0, default⟩⟩
instance : Inhabited Ball := ⟨⟨0, 0, 0, 0⟩⟩
instance : Inhabited Mark := ⟨⟨0, 0, 0⟩⟩
instance : Inhabited Look := ⟨⟨0, 0, 0, 0, 0⟩⟩

inductive UC where
  | int (k : IntKind) | flt (k : FloatKind) | cplx (k : FloatKind) | bool | str | vec | body | entry | mark | look
  deriving DecidableEq

def UC.T : UC → Type
  | .int _ => Int
  | .flt _ => Nat
  | .cplx _ => Nat × Nat
  | .bool => Bool
  | .str => List UInt8
  | .vec => Vec
  | .body => Body
  | .entry => Entry
  | .mark => Mark
  | .look => Look

def UC.dflt : (c : UC) → c.T
  | .int _ => (0 : Int)
  | .flt _ => (0 : Nat)
  | .cplx _ => ((0, 0) : Nat × Nat)
  | .bool => false
  | .str => ([] : List UInt8)
  | .vec => (⟨0, 0, 0⟩ : Vec)
  | .body => (⟨⟨0, 0, 0⟩, ⟨0, 0, 0⟩, 0⟩ : Body)
  | .entry => (⟨[], 0, ⟨0, 0, 0, 0, 0, 0⟩⟩ : Entry)
  | .mark => (⟨0, 0, 0⟩ : Mark)
  | .look => (⟨0, 0, 0, 0, 0⟩ : Look)

instance (c : UC) : Inhabited c.T := ⟨c.dflt⟩

def UC.size : UC → Nat
  | .int _ | .flt _ | .cplx _ | .bool | .str => 1
  | .vec | .mark => 3
  | .look => 5
  | .body => 7
  | .entry => 8

/-! ## Abstract values -/

inductive PV where
  | bool (b : Bool)
  /-- a constant of the text -/
  | boolK (b : Bool)
  | int (k : IntKind) (n : Int)
  | flt (k : FloatKind) (x : Nat)
  | cplx (k : FloatKind) (x y : Nat)
  | str (s : List UInt8)
  | nilp
  /-- a pointer into a box of the call's own: box 'id', cell 'j' -/
  | ptr (id j : Nat)
  /-- a pointer into an element of a slice of the call's own -/
  | eptr (id sz i j : Nat)
  /-- a pointer into memory that is not written any more: its cells from the pointed variable's begin on -/
  | vcell (cs : List PV) (j : Nat)
  | agg (cs : List PV)
  | tup (cs : List PV)
  | nils
  /-- a whole slice of the call's own -/
  | own (id : Nat)
  /-- a part of a slice of the call's own -/
  | osub (id sz lo n : Nat)
  /-- the slice of a whole box of the call's own that holds an array of n floats -/
  | asl (id n : Nat)
  /-- a slice of memory that is not written any more; tag i + 1: it is the argument number i itself -/
  | vslc (tag : Nat) (c : UC) (xs : List c.T)
  | func (fn : Fn) (first captured : List PV)
  | nilf
  | iface (t : TypeId) (v : PV)
  | nili
  /-- the bits of a not-a-number, as an integer -/
  | nanb
  /-- a slice whose elements are slices, in memory that is not written any more -/
  | lst (cs : List PV)
  | junk

instance : Inhabited PV := ⟨.junk⟩

def UC.enc : (c : UC) → c.T → List PV
  | .int k, n => [.int k n]
  | .flt k, x => [.flt k x]
  | .cplx k, x => [.cplx k x.1 x.2]
  | .bool, b => [.bool b]
  | .str, s => [.str s]
  | .vec, v => let v : Vec := v; [.flt .f32 v.X, .flt .f32 v.Y, .flt .f32 v.Z]
  | .body, b => let b : Body := b; [.flt .f32 b.At.X, .flt .f32 b.At.Y, .flt .f32 b.At.Z, .flt .f32 b.Speed.X, .flt .f32 b.Speed.Y, .flt .f32 b.Speed.Z, .flt .f32 b.Mass]
  | .entry, e => let e : Entry := e; [.str e.Name, .flt .f32 e.Mass, .flt .f32 e.Orb.Long, .flt .f32 e.Orb.Round, .flt .f32 e.Orb.Tilt, .flt .f32 e.Orb.Node, .flt .f32 e.Orb.Peri, .flt .f32 e.Orb.Phase]
  | .mark, v => let v : Mark := v; [.flt .f32 v.North, .flt .f32 v.East, .flt .f32 v.High]
  | .look, v => let v : Look := v; [.flt .f32 v.Time, .flt .f32 v.Right, .flt .f32 v.Up, .flt .f32 v.Far, .flt .f32 v.Weight]

def decInt (k : IntKind) : List PV → Option Int
  | [.int k' n] => bif decide (k = k') then some n else none
  | _ => none
def decFlt (k : FloatKind) : List PV → Option Nat
  | [.flt k' x] => bif decide (k = k') then some x else none
  | _ => none
def decCplx (k : FloatKind) : List PV → Option (Nat × Nat)
  | [.cplx k' x y] => bif decide (k = k') then some (x, y) else none
  | _ => none
def decBool : List PV → Option Bool
  | [.bool b] => some b
  | _ => none
def decStr : List PV → Option (List UInt8)
  | [.str s] => some s
  | _ => none
def decVec : List PV → Option Vec
  | [.flt .f32 x, .flt .f32 y, .flt .f32 z] => some ⟨x, y, z⟩
  | _ => none
def decBody : List PV → Option Body
  | [.flt .f32 a, .flt .f32 b, .flt .f32 c, .flt .f32 d, .flt .f32 e, .flt .f32 f, .flt .f32 g] => some ⟨⟨a, b, c⟩, ⟨d, e, f⟩, g⟩
  | _ => none
def decEntry : List PV → Option Entry
  | [.str n, .flt .f32 m, .flt .f32 a, .flt .f32 b, .flt .f32 c, .flt .f32 d, .flt .f32 e, .flt .f32 f] => some ⟨n, m, ⟨a, b, c, d, e, f⟩⟩
  | _ => none
def decMark : List PV → Option Mark
  | [.flt .f32 x, .flt .f32 y, .flt .f32 z] => some ⟨x, y, z⟩
  | _ => none
def decLook : List PV → Option Look
  | [.flt .f32 a, .flt .f32 b, .flt .f32 c, .flt .f32 d, .flt .f32 e] => some ⟨a, b, c, d, e⟩
  | _ => none

def UC.dec (c : UC) (l : List PV) : Option c.T :=
  match c with
  | .int k => decInt k l
  | .flt k => decFlt k l
  | .cplx k => decCplx k l
  | .bool => decBool l
  | .str => decStr l
  | .vec => decVec l
  | .body => decBody l
  | .entry => decEntry l
  | .mark => decMark l
  | .look => decLook l

theorem UC.enc_dec (c : UC) (l : List PV) (x : c.T) (h : c.dec l = some x) : c.enc x = l := by
  cases c <;> simp only [UC.dec] at h
  case int k =>
    unfold decInt at h; split at h
    · rw [cond_eq_ite] at h; split at h
      · rename_i k' n hk; have hk := of_decide_eq_true hk; subst hk; cases h; rfl
      · cases h
    · cases h
  case flt k =>
    unfold decFlt at h; split at h
    · rw [cond_eq_ite] at h; split at h
      · rename_i k' n hk; have hk := of_decide_eq_true hk; subst hk; cases h; rfl
      · cases h
    · cases h
  case cplx k =>
    unfold decCplx at h; split at h
    · rw [cond_eq_ite] at h; split at h
      · rename_i k' n m hk; have hk := of_decide_eq_true hk; subst hk; cases h; rfl
      · cases h
    · cases h
  case bool => unfold decBool at h; split at h <;> cases h; rfl
  case str => unfold decStr at h; split at h <;> cases h; rfl
  case vec => unfold decVec at h; split at h <;> cases h; rfl
  case body => unfold decBody at h; split at h <;> cases h; rfl
  case entry => unfold decEntry at h; split at h <;> cases h; rfl
  case mark => unfold decMark at h; split at h <;> cases h; rfl
  case look => unfold decLook at h; split at h <;> cases h; rfl

theorem UC.enc_length (c : UC) (x : c.T) : (c.enc x).length = c.size := by cases c <;> rfl

def UC.cast : (c d : UC) → List c.T → Option (List d.T)
  | .int k, .int k', xs => bif decide (k = k') then some xs else none
  | .flt k, .flt k', xs => bif decide (k = k') then some xs else none
  | .cplx k, .cplx k', xs => bif decide (k = k') then some xs else none
  | .bool, .bool, xs => some xs
  | .str, .str, xs => some xs
  | .vec, .vec, xs => some xs
  | .body, .body, xs => some xs
  | .entry, .entry, xs => some xs
  | .mark, .mark, xs => some xs
  | .look, .look, xs => some xs
  | _, _, _ => none

theorem UC.cast_eq (c d : UC) (xs : List c.T) (ys : List d.T) (h : c.cast d xs = some ys) : ∃ e : c = d, e ▸ xs = ys := by
  cases c <;> cases d <;> simp only [UC.cast, reduceCtorEq] at h
  all_goals first
    | (cases h; exact ⟨rfl, rfl⟩)
    | (rw [cond_eq_ite] at h
       split at h
       · rename_i hk
         have hk := of_decide_eq_true hk
         subst hk
         cases h
         exact ⟨rfl, rfl⟩
       · cases h)

/-- A slice value's contents, read at a kind of elements. -/
def PV.asList (d : UC) : PV → Option (List d.T)
  | .vslc _ c xs => c.cast d xs
  | .nils => some []
  | _ => none

/-- What a block of the call's own holds. -/
inductive Blk where
  | cells (cs : List PV)
  | typed (e : TypeId) (c : UC) (xs : List c.T)

/-! ## Type rows -/

inductive TD where
  | int (k : IntKind) | flt (k : FloatKind) | cplx (k : FloatKind) | bool | str
  | struct (fs : List (Nat × TypeId)) | arr (n : Nat) (e : TypeId) | slc (e : TypeId) | ptr (e : TypeId) | other
structure TI where
  d : TD
  sz : Nat
  bytes : Nat
  zero : List PV
  code : Option UC
abbrev TT := TypeId → Option TI

def TD.isAgg : TD → Bool
  | .struct _ | .arr _ _ => true
  | _ => false

/-! ## Reading programs -/

inductive Res where
  | t (n : Nat)
  | b (n : Nat)
  deriving DecidableEq

inductive Rd (α : Type) where
  | ret (a : α)
  | tmp (t : Nat) (k : PV → Rd α)
  | blk (id : Nat) (k : Option Blk → Rd α)
  /-- a decision; 'key': the temporary that holds what decides -/
  | ask (key : Option Nat) (c : Bool) (k : Bool → Rd α)
  | fail

def Rd.bind {α β : Type} : Rd α → (α → Rd β) → Rd β
  | .ret a, f => f a
  | .tmp t k, f => .tmp t fun v => (k v).bind f
  | .blk id k, f => .blk id fun v => (k v).bind f
  | .ask q c k, f => .ask q c fun b => (k b).bind f
  | .fail, _ => .fail

instance : Monad Rd where
  pure := Rd.ret
  bind := Rd.bind

def rtmp (t : Nat) : Rd PV := .tmp t .ret
def rblk (id : Nat) : Rd (Option Blk) := .blk id .ret
def rask (key : Option Nat) (c : Bool) : Rd Bool := .ask key c .ret
/-- Go on only if it is so. -/
def need (c : Bool) : Rd Unit := .ask none c fun b => match b with
  | true => .ret ()
  | false => .fail
def lift {α : Type} : Option α → Rd α
  | some a => .ret a
  | none => .fail

/-- A decision: what decides in the evaluator; what decides in the reader's words; which way. -/
abbrev Conds := List (Bool × (Bool × Bool))

/-- What is known: the decisions to come, in order ('none', and what comes behind the list's end: worked out), and those that were taken. -/
structure Orc where
  ds : List (Option (Bool × Bool))
  memo : List (Nat × (Bool × Bool))

abbrev Out (α : Type) := Option (α × Orc × Conds × List Res)

def recall : Option Nat → List (Nat × (Bool × Bool)) → Option (Bool × Bool)
  | none, _ => none
  | some _, [] => none
  | some k, (n, e) :: r => bif k == n then some e else recall (some k) r

def remember (key : Option Nat) (e : Bool × Bool) (m : List (Nat × (Bool × Bool))) : List (Nat × (Bool × Bool)) :=
  match key with
  | some k => (k, e) :: m
  | none => m

def Rd.run {α : Type} (tm : Nat → PV) (hp : Nat → Option Blk) : Rd α → Orc → Out α
  | .ret a, o => some (a, o, [], [])
  | .tmp t k, o => match (k (tm t)).run tm hp o with
    | some (a, o', cs, fp) => some (a, o', cs, .t t :: fp)
    | none => none
  | .blk id k, o => match (k (hp id)).run tm hp o with
    | some (a, o', cs, fp) => some (a, o', cs, .b id :: fp)
    | none => none
  | .ask q c k, o => match recall q o.memo with
    | some (h, d) => match (k d).run tm hp o with
      | some (a, o', cs, fp) => some (a, o', (c, (h, d)) :: cs, fp)
      | none => none
    | none => match o.ds with
      | [] => (k c).run tm hp o
      | none :: ds => (k c).run tm hp ⟨ds, o.memo⟩
      | some (h, d) :: ds => match (k d).run tm hp ⟨ds, remember q (h, d) o.memo⟩ with
        | some (a, o', cs, fp) => some (a, o', (c, (h, d)) :: cs, fp)
        | none => none
  | .fail, _ => none

/-! ## Operations -/

/-- The value and the new contents of blocks. -/
structure OR where
  v : PV
  wr : List (Nat × Option Blk)

def okv (v : PV) : Rd OR := .ret ⟨v, []⟩

def PV.unK : PV → PV
  | .boolK b => .bool b
  | v => v

def ofConst0 : Value → Option PV
  | .bool b => some (.boolK b)
  | .int k n => some (.int k n)
  | .float k b => some (.flt k (canon k b))
  | .complex k a b => some (.cplx k (canon k a) (canon k b))
  | .string s => some (.str s.data.toList)
  | .pointer none => some .nilp
  | .slice none 0 0 => some .nils
  | .nilFunc => some .nilf
  | .nilIface => some .nili
  | _ => none

def ofConsts0 : List Value → Option (List PV)
  | [] => some []
  | v :: vs => match ofConst0 v, ofConsts0 vs with
    | some p, some ps => some (p.unK :: ps)
    | _, _ => none

def ofConst : Value → Option PV
  | .agg cs => (ofConsts0 cs.toList).map .agg
  | v => ofConst0 v

def rop : Operand → Rd PV
  | .tmp t => rtmp t
  | .const v => lift (ofConst v)
  | .func f => .ret (.func (.func f) [] [])
  | .global _ => .fail

def keyOf : Operand → Option Nat
  | .tmp t => some t
  | _ => none

def ropt : Option Operand → Rd (Option PV)
  | none => .ret none
  | some x => do let v ← rop x; .ret (some v)

def rops : List Operand → Rd (List PV)
  | [] => .ret []
  | x :: xs => do let v ← rop x; let vs ← rops xs; .ret (v :: vs)

def rops2 : List (Nat × Operand) → Rd (List (Nat × PV))
  | [] => .ret []
  | (i, x) :: xs => do let v ← rop x; let vs ← rops2 xs; .ret ((i, v) :: vs)

def PV.cellsOf : PV → Option (List PV)
  | .agg cs => some cs
  | .junk => none
  | .boolK b => some [.bool b]
  | v => some [v]

/-- May each be stored into one cell? -/
def oneCells : List PV → Bool
  | [] => true
  | .agg _ :: _ | .tup _ :: _ | .junk :: _ => false
  | _ :: r => oneCells r

def lget {α : Type} : List α → Nat → Option α
  | [], _ => none
  | x :: _, 0 => some x
  | _ :: xs, n + 1 => lget xs n

/-- 'vs' written over 'cs' from place 'j' on. -/
def over (cs : List PV) (j : Nat) (vs : List PV) : List PV := cs.take j ++ vs ++ cs.drop (j + vs.length)

def ti (T : TT) (t : TypeId) : Rd TI := lift (T t)

def part (i : TI) (cs : List PV) (off : Nat) : Option PV :=
  bif i.d.isAgg then (bif Nat.ble (off + i.sz) cs.length then some (.agg ((cs.drop off).take i.sz)) else none) else lget cs off

def intBin (op : BinOp) (k : IntKind) (a b : Int) : Rd PV :=
  match op with
  | .add => .ret (.int k (k.wrap (a + b)))
  | .sub => .ret (.int k (k.wrap (a - b)))
  | .mul => .ret (.int k (k.wrap (a * b)))
  | .quo => do need (b != 0); .ret (.int k (k.wrap (a.tdiv b)))
  | .rem => do need (b != 0); .ret (.int k (a.tmod b))
  | .and => .ret (.int k (k.wrap (BitVec.ofInt k.bits a &&& BitVec.ofInt k.bits b).toNat))
  | .or => .ret (.int k (k.wrap (BitVec.ofInt k.bits a ||| BitVec.ofInt k.bits b).toNat))
  | .xor => .ret (.int k (k.wrap (BitVec.ofInt k.bits a ^^^ BitVec.ofInt k.bits b).toNat))
  | .andNot => .ret (.int k (k.wrap (BitVec.ofInt k.bits a &&& ~~~ BitVec.ofInt k.bits b).toNat))
  | .eql => .ret (.bool (a == b))
  | .neq => .ret (.bool (a != b))
  | .lss => .ret (.bool (decide (a < b)))
  | .leq => .ret (.bool (decide (a ≤ b)))
  | .gtr => .ret (.bool (decide (a > b)))
  | .geq => .ret (.bool (decide (a ≥ b)))
  | _ => .fail

def shiftR (op : BinOp) (k : IntKind) (a b : Int) : Rd PV := do
  need (decide (0 ≤ b))
  match op with
  | .shl => .ret (.int k (k.wrap (a * 2 ^ (min b.toNat k.bits))))
  | .shr => .ret (.int k (a.fdiv (2 ^ (min b.toNat k.bits))))
  | _ => .fail

def fltBin (op : BinOp) (k : FloatKind) (x y : Nat) : Rd PV :=
  match op with
  | .add => .ret (.flt k (fadd k x y))
  | .sub => .ret (.flt k (fsub k x y))
  | .mul => .ret (.flt k (fmul k x y))
  | .quo => .ret (.flt k (fdiv k x y))
  | .eql => .ret (.bool (feq k x y))
  | .neq => .ret (.bool (fne k x y))
  | .lss => .ret (.bool (flt k x y))
  | .leq => .ret (.bool (fle k x y))
  | .gtr => .ret (.bool (fgt k x y))
  | .geq => .ret (.bool (fge k x y))
  | _ => .fail

def strBin (op : BinOp) (a b : List UInt8) : Rd PV :=
  match op with
  | .add => do need (decide (a.length + b.length ≤ 9223372036854775807)); .ret (.str (a ++ b))
  | .eql => .ret (.bool (a == b))
  | .neq => .ret (.bool (!(a == b)))
  | .lss => .ret (.bool (Op.bytesLess a b))
  | .leq => .ret (.bool (Op.bytesLess a b || a == b))
  | .gtr => .ret (.bool (!(Op.bytesLess a b || a == b)))
  | .geq => .ret (.bool (!Op.bytesLess a b))
  | _ => .fail

def binR (T : TT) (t : TypeId) (op : BinOp) (x y : PV) : Rd PV :=
  match x.unK, y.unK with
  | .int k a, .int k' b =>
    match op with
    | .shl | .shr => shiftR op k a b
    | _ => bif decide (k = k') then intBin op k a b else .fail
  | .nanb, .int .u64 n => match op with
    | .andNot => bif decide (n = 9223372036854775808) then .ret .nanb else .fail
    | _ => .fail
  | .flt k a, .flt k' b => bif decide (k = k') then fltBin op k a b else .fail
  | .str a, .str b => strBin op a b
  | .bool a, .bool b => do
    let i ← ti T t
    match i.d, op with
    | .bool, .eql => .ret (.bool (a == b))
    | .bool, .neq => .ret (.bool (!(a == b)))
    | _, _ => .fail
  | _, _ => .fail

def unR (op : UnOp) (x : PV) : Rd PV :=
  match op, x with
  | .not, .bool b => .ret (.bool !b)
  | .not, .boolK b => .ret (.boolK !b)
  | .neg, .int k n => .ret (.int k (k.wrap (0 - n)))
  | .neg, .flt k x => .ret (.flt k (fneg k x))
  | _, _ => .fail

def convR (s d : TD) (x : PV) : Rd PV :=
  match s, d, x with
  | _, .int k, .int _ n => .ret (.int k (k.wrap n))
  | _, .flt k, .int _ n => .ret (.flt k (fofInt k n))
  | _, .int k, .flt s x => do need (ftoIntOk s x k); .ret (.int k (ftoInt s x))
  | _, .flt k, .flt s x => bif decide (s = k) then .ret (.flt k x) else do need (fconvOk s x k); .ret (.flt k (fconv s x k))
  | _, .cplx k, .cplx s x y => bif decide (s = k) then .ret (.cplx k x y) else do need (fconvOk s x k); need (fconvOk s y k); .ret (.cplx k (fconv s x k) (fconv s y k))
  | _, .str, .str s => .ret (.str s)
  | _, _, _ => .fail

/-- Elements of 'sz' cells each, as many as 'n'. -/
def chunks (c : UC) : Nat → List PV → Option (List c.T)
  | 0, [] => some []
  | 0, _ :: _ => none
  | n + 1, l => match c.dec (l.take c.size) with
    | some x => match chunks c n (l.drop c.size) with
      | some xs => some (x :: xs)
      | none => none
    | none => none

def fillR (place : Nat → Option (Nat × Nat)) (cs : List PV) : List (Nat × PV) → Option (List PV)
  | [] => some cs
  | (i, v) :: rest => match place i with
    | none => none
    | some (off, size) => match v.cellsOf with
      | some ws => bif ws.length == size && Nat.ble (off + size) cs.length then fillR place (over cs off ws) rest else none
      | none => none

def sizes (T : TT) : List (Nat × TypeId) → Option (List (Nat × Nat))
  | [] => some []
  | (o, t) :: r => match T t, sizes T r with
    | some i, some l => some ((o, i.sz) :: l)
    | _, _ => none

def repl {α : Type} (x : List α) : Nat → List α
  | 0 => []
  | n + 1 => x ++ repl x n

/-- The cells behind a pointer, from its variable's begin on, and the place in them. -/
def loadR (i : TI) (a : PV) : Rd PV :=
  match a with
  | .ptr id j => do
    match ← rblk id with
    | some (.cells cs) => lift (part i cs j)
    | _ => .fail
  | .eptr id sz n j => do
    match ← rblk id with
    | some (.typed _ c xs) => do
      need (decide (n < xs.length))
      bif sz == c.size then lift (part i (c.enc (xs.getD n default)) j) else .fail
    | _ => .fail
  | .vcell cs j => lift (part i cs j)
  | _ => .fail

def storeR (i : TI) (a v : PV) : Rd OR :=
  match a with
  | .ptr id j => do
    match ← rblk id with
    | some (.cells cs) => do
      let ws ← lift v.cellsOf
      bif ws.length == i.sz && Nat.ble (j + i.sz) cs.length && oneCells ws then .ret ⟨.junk, [(id, some (.cells (over cs j ws)))]⟩ else .fail
    | _ => .fail
  | .eptr id sz n j => do
    match ← rblk id with
    | some (.typed e c xs) => do
      need (decide (n < xs.length))
      let ws ← lift v.cellsOf
      let x ← lift (c.dec (over (c.enc (xs.getD n default)) j ws))
      bif ws.length == i.sz && Nat.ble (j + i.sz) c.size && sz == c.size && oneCells ws then .ret ⟨.junk, [(id, some (.typed e c (xs.set n x)))]⟩ else .fail
    | _ => .fail
  | _ => .fail

/-- A pointer moved by cells within its variable. -/
def moveR (a : PV) (n : Nat) : Option PV :=
  match a with
  | .ptr id j => some (.ptr id (j + n))
  | .eptr id sz i j => some (.eptr id sz i (j + n))
  | .vcell cs j => some (.vcell cs (j + n))
  | _ => none

def idxR (T : TT) (d : TD) (x : PV) (ix : PV) : Rd PV :=
  match d, x, ix with
  | .slc e, .own id, .int _ n => do
    let i ← ti T e
    match ← rblk id with
    | some (.typed _ c xs) => do
      need (decide (0 ≤ n) && decide (n < xs.length))
      bif i.sz == c.size then .ret (.eptr id c.size n.toNat 0) else .fail
    | _ => .fail
  | .slc e, .osub id sz lo m, .int _ n => do
    let i ← ti T e
    need (decide (0 ≤ n) && decide (n < m))
    bif i.sz == sz then .ret (.eptr id sz (lo + n.toNat) 0) else .fail
  | .slc e, .vslc _ c xs, .int _ n => do
    let i ← ti T e
    need (decide (0 ≤ n) && decide (n < xs.length))
    bif i.sz == c.size then .ret (.vcell (c.enc (xs.getD n.toNat default)) 0) else .fail
  | .arr len e, p, .int _ n => do
    let i ← ti T e
    need (decide (0 ≤ n) && decide (n < len))
    lift (moveR p (n.toNat * i.sz))
  | .slc e, .lst cs, .int _ n => do
    let i ← ti T e
    need (decide (0 ≤ n) && decide (n < cs.length))
    bif i.sz == 1 then .ret (.vcell cs n.toNat) else .fail
  | _, _, _ => .fail

def indexR (T : TT) (d : TD) (x : PV) (ix : PV) : Rd PV :=
  match d, x, ix with
  | .str, .str s, .int _ n => do
    need (decide (0 ≤ n) && decide (n < s.length))
    .ret (.int .u8 (s.getD n.toNat 0).toNat)
  | .arr len e, .agg cs, .int _ n => do
    let i ← ti T e
    need (decide (0 ≤ n) && decide (n < len))
    lift (part i cs (n.toNat * i.sz))
  | _, _, _ => .fail

/-- A bound of a slice expression, from 0 to 'most'; what stands where there is none. -/
def boundR (x : Option PV) (most dflt : Nat) : Rd Nat :=
  match x with
  | none => .ret dflt
  | some (.int _ n) => do need (decide (0 ≤ n) && decide (n ≤ most)); .ret n.toNat
  | some _ => .fail

def sliceR (T : TT) (d : TD) (x : PV) (lo hi : Option PV) : Rd PV :=
  match d, x with
  | .str, .str s => do
    let h ← boundR hi s.length s.length
    let l ← boundR lo h 0
    .ret (.str ((s.take h).drop l))
  | .slc e, .vslc _ c xs => do
    let i ← ti T e
    let h ← boundR hi xs.length xs.length
    let l ← boundR lo h 0
    bif i.sz == c.size then .ret (.vslc 0 c ((xs.take h).drop l)) else .fail
  | .slc e, .own id => do
    let i ← ti T e
    match ← rblk id with
    | some (.typed _ c xs) => do
      let h ← boundR hi xs.length xs.length
      let l ← boundR lo h 0
      bif i.sz == c.size then .ret (.osub id c.size l (h - l)) else .fail
    | _ => .fail
  | .arr n e, .ptr id j => do
    let i ← ti T e
    bif Nat.beq j 0 && Nat.beq i.sz 1 && (lo.isNone && hi.isNone) then .ret (.asl id n) else .fail
  | _, _ => .fail

def lenR (d : TD) (x : PV) : Rd PV :=
  match d, x with
  | .str, .str s => .ret (.int .i64 s.length)
  | .slc _, .vslc _ _ xs => .ret (.int .i64 xs.length)
  | .slc _, .nils => .ret (.int .i64 0)
  | .slc _, .osub _ _ _ n => .ret (.int .i64 n)
  | .slc _, .asl _ n => .ret (.int .i64 n)
  | .slc _, .own id => do
    match ← rblk id with
    | some (.typed _ _ xs) => .ret (.int .i64 xs.length)
    | _ => .fail
  | .arr n _, _ => .ret (.int .i64 n)
  | .slc _, .lst cs => .ret (.int .i64 cs.length)
  | _, _ => .fail

/-- What is appended. -/
def srcR (c : UC) (x : PV) : Rd (List c.T) :=
  match x with
  | .nils => .ret []
  | .vslc _ d ys => lift (d.cast c ys)
  | .own id => do
    match ← rblk id with
    | some (.typed _ d ys) => lift (d.cast c ys)
    | _ => .fail
  | .osub id sz lo n => do
    match ← rblk id with
    | some (.typed _ d ys) => do
      need (decide (lo + n ≤ ys.length))
      bif sz == d.size then lift (d.cast c ((ys.drop lo).take n)) else .fail
    | _ => .fail
  | _ => .fail

def PV.ownId : PV → Option Nat
  | .own id => some id
  | .osub id _ _ _ => some id
  | _ => none

def appendR (T : TT) (idb : Nat) (e : TypeId) (x y : PV) : Rd OR := do
  let i ← ti T e
  match x with
  | .own id => do
    match ← rblk id with
    | some (.typed e' c xs) => do
      let ys ← srcR c y
      need (decide ((xs.length + ys.length) * i.bytes ≤ 140737488355328) && decide (xs.length + ys.length ≤ 9223372036854775807))
      bif e' == e && i.sz == c.size && i.zero.length == c.size && !(y.ownId == some id) then .ret ⟨.own idb, [(id, none), (idb, some (.typed e c (xs ++ ys)))]⟩ else .fail
    | _ => .fail
  | .nils => do
    let c ← lift i.code
    let ys ← srcR c y
    match ← rask none (decide (0 < ys.length)) with
    | true => do
      need (decide (ys.length * i.bytes ≤ 140737488355328) && decide (ys.length ≤ 9223372036854775807))
      bif i.sz == c.size && i.zero.length == c.size then .ret ⟨.own idb, [(idb, some (.typed e c ys))]⟩ else .fail
    | false => .ret ⟨.nils, []⟩
  | _ => .fail

/-- Two floats that have an order; their greater and their lesser one. -/
def ordOk (k : FloatKind) (x y : Nat) : Bool := (k.format.order x y).isSome && (!isNaN k x && !isNaN k y)
def fmax (k : FloatKind) (x y : Nat) : Nat := match k.format.order x y with
  | some .lt => y
  | some .gt => x
  | _ => bif (k.decode x).neg then y else x
def fmin (k : FloatKind) (x y : Nat) : Nat := match k.format.order x y with
  | some .lt => x
  | some .gt => y
  | _ => bif (k.decode x).neg then x else y

/-- A value as a callee sees it: what is the caller's own is memory that is not written. 'i' is the argument's number, 0 within others. -/
def snapCell (v : PV) : Rd PV :=
  match v with
  | .bool _ | .int _ _ | .flt _ _ | .cplx _ _ _ | .str _ | .nilp | .nils | .nilf | .nili => .ret v
  | .vslc _ c xs => .ret (.vslc 0 c xs)
  | _ => .fail

def snapCells : List PV → Rd (List PV)
  | [] => .ret []
  | v :: vs => do let w ← snapCell v; let ws ← snapCells vs; .ret (w :: ws)

def f32s : List PV → Option (List Nat)
  | [] => some []
  | .flt .f32 x :: r => match f32s r with
    | some xs => some (x :: xs)
    | none => none
  | _ => none

def snap0 (v : PV) : Rd PV :=
  match v with
  | .boolK b => .ret (.bool b)
  | .bool _ | .int _ _ | .flt _ _ | .cplx _ _ _ | .str _ | .nilp | .nils | .nilf | .nili | .nanb => .ret v
  | .ptr id j => do
    match ← rblk id with
    | some (.cells cs) => do let cs' ← snapCells cs; .ret (.vcell cs' j)
    | _ => .fail
  | .eptr id sz n j => do
    match ← rblk id with
    | some (.typed _ c xs) => do
      need (decide (n < xs.length))
      bif sz == c.size then .ret (.vcell (c.enc (xs.getD n default)) j) else .fail
    | _ => .fail
  | .vcell cs j => do let cs' ← snapCells cs; .ret (.vcell cs' j)
  | .agg cs => do let cs' ← snapCells cs; .ret (.agg cs')
  | .vslc _ c xs => .ret (.vslc 0 c xs)
  | .own id => do
    match ← rblk id with
    | some (.typed _ c xs) => .ret (.vslc 0 c xs)
    | _ => .fail
  | .osub id sz lo n => do
    match ← rblk id with
    | some (.typed _ c xs) => do
      need (decide (lo + n ≤ xs.length))
      bif sz == c.size then .ret (.vslc 0 c ((xs.drop lo).take n)) else .fail
    | _ => .fail
  | .asl id n => do
    match ← rblk id with
    | some (.cells cs) => do
      let xs ← lift (f32s cs)
      bif Nat.beq n xs.length then .ret (.vslc 0 (.flt .f32) xs) else .fail
    | _ => .fail
  | _ => .fail

def snap0s : List PV → Rd (List PV)
  | [] => .ret []
  | v :: vs => do let w ← snap0 v; let ws ← snap0s vs; .ret (w :: ws)

/-- A cell that may hold a function with what it captures. -/
def snapF (v : PV) : Rd PV :=
  match v with
  | .func fn f c => do
    let f' ← snap0s f
    let c' ← snap0s c
    .ret (.func fn f' c')
  | v => snapCell v

def snapFs : List PV → Rd (List PV)
  | [] => .ret []
  | v :: vs => do let w ← snapF v; let ws ← snapFs vs; .ret (w :: ws)

/-- A value, its cells functions, too. -/
def snap2 (v : PV) : Rd PV :=
  match v with
  | .ptr id j => do
    match ← rblk id with
    | some (.cells cs) => do let cs' ← snapFs cs; .ret (.vcell cs' j)
    | _ => .fail
  | .vcell cs j => do let cs' ← snapFs cs; .ret (.vcell cs' j)
  | v => snap0 v

def snap2s : List PV → Rd (List PV)
  | [] => .ret []
  | v :: vs => do let w ← snap2 v; let ws ← snap2s vs; .ret (w :: ws)

def snap1 (v : PV) : Rd PV :=
  match v with
  | .lst cs => do let cs' ← snap0s cs; .ret (.lst cs')
  | v => snap2 v

def snap (i : Nat) (v : PV) : Rd PV := do
  match v with
  | .func fn f c => do
    let f' ← snap2s f
    let c' ← snap2s c
    .ret (.func fn f' c')
  | v => do
    let w ← snap1 v
    match w with
    | .vslc _ c xs => .ret (.vslc (i + 1) c xs)
    | w => .ret w

def snaps : Nat → List PV → Rd (List PV)
  | _, [] => .ret []
  | i, v :: vs => do let w ← snap i v; let ws ← snaps (i + 1) vs; .ret (w :: ws)

/-- What a function answers: its value, 'own k' being new memory, the k-th of 'bl'. -/
structure Ret where
  v : PV
  bl : List Blk

abbrev Fun := List PV → Option Ret
/-- Answers by conditions: 'ask': one of two, 'need': only if, 'skip': what is checked needs no word. -/
inductive DT (α : Type) where
  | leaf (a : α)
  | ask (c : Bool) (t e : DT α)
  | need (c : Bool) (t : DT α)
  | skip (t : DT α)
  | fail

def DT.get {α : Type} : DT α → Option α
  | .leaf a => some a
  | .ask c t e => match c with
    | true => t.get
    | false => e.get
  | .need c t => match c with
    | true => t.get
    | false => none
  | .skip t => t.get
  | .fail => none

def DT.rd {α : Type} : DT α → Rd α
  | .leaf a => .ret a
  | .ask c t e => do
    match ← rask none c with
    | true => t.rd
    | false => e.rd
  | .need c t => do
    Go.Proofs.Ytilfdpllleninaa.need c
    t.rd
  | .skip t => t.rd
  | .fail => .fail

/-- A contract: the answer by conditions. -/
abbrev Con := List PV → Option (DT Ret)

/-- What depends on no context. -/
def PV.plain : PV → Bool
  | .bool _ | .int _ _ | .flt _ _ | .cplx _ _ _ | .str _ | .nilp | .nils | .nilf | .nili | .nanb => true
  | _ => false

def plains : List PV → Bool
  | [] => true
  | v :: vs => v.plain && plains vs

/-- A string's bytes as elements. -/
def u8s (l : List UInt8) : List (UC.int .u8).T := List.map (β := Int) (fun b => (b.toNat : Int)) l
/-- Elements as a string's bytes. -/
def strOf (ys : List (UC.int .u8).T) : List UInt8 := List.map (fun n : Int => UInt8.ofNat n.toNat) ys

def TD.isU8 : TD → Bool
  | .int .u8 => true
  | _ => false

/-- A string appended to bytes of the call's own. -/
def appendS (T : TT) (idb : Nat) (e : TypeId) (x : PV) (l : List UInt8) : Rd OR := do
  let i ← ti T e
  match x with
  | .own id => do
    match ← rblk id with
    | some (.typed e' c xs) => do
      let ys ← lift (UC.cast (.int .u8) c (u8s l))
      need (decide ((xs.length + ys.length) * i.bytes ≤ 140737488355328) && decide (xs.length + ys.length ≤ 9223372036854775807))
      bif e' == e && i.sz == c.size && i.zero.length == c.size then .ret ⟨.own idb, [(id, none), (idb, some (.typed e c (xs ++ ys)))]⟩ else .fail
    | _ => .fail
  | _ => .fail

/-- A conversion; those of []byte and strings make or read rows. -/
def convO (T : TT) (idb : Nat) (s d : TypeId) (i j : TI) (x : PV) : Rd OR :=
  match i.d, j.d, x with
  | .str, .slc e, .str l => do
    let k ← ti T e
    need (decide (l.length ≤ 140737488355328))
    bif k.d.isU8 then .ret ⟨.own idb, [(idb, some (.typed e (.int .u8) (u8s l)))]⟩ else .fail
  | .slc e, .slc _, .own id => do
    let k ← ti T e
    match ← rblk id with
    | some (.typed e0 u xs) => do
      need (decide (0 < xs.length))
      bif decide (s = d) && k.d.isU8 then .ret ⟨.own id, [(id, some (.typed e0 u xs))]⟩ else .fail
    | _ => .fail
  | .slc e, .str, y => do
    let k ← ti T e
    let ys ← srcR (.int .u8) y
    bif k.d.isU8 then okv (.str (strOf ys)) else .fail
  | a, b, y => do okv (← convR a b y)

/-- A contract of a function that writes into its first argument, a slice: the answer, and what the slice holds then. -/
structure MCon where
  e : TypeId
  c : UC
  F : List c.T → List PV → Option (DT (PV × List c.T))

/-- A contract of a function whose first argument is a pointer to a box that it may write: the box's cells, the further arguments; the answer, and the cells then ('none': as it was). -/
abbrev BCon := List PV → List PV → Option (DT (PV × List (Option PV)))

/-- A contract of a function that answers with a pointer to a new box: its cells. -/
abbrev NCon := List PV → Option (List PV)

structure Gam where
  cons : FuncId → Option Con
  muts : FuncId → Option MCon
  boxs : FuncId → Option BCon
  news : FuncId → Option NCon

def Con.fn (G : Con) : Fun := fun as => match G as with
  | some t => t.get
  | none => none

/-- A result's part in the caller's words. -/
def backC (idb : Nat) (args : List PV) (v : PV) : Rd PV :=
  match v with
  | .own k => .ret (.own (idb + k))
  | .vslc 0 _ _ => .fail
  | .vslc (i + 1) _ _ => lift (lget args i)
  | .bool _ | .int _ _ | .flt _ _ | .cplx _ _ _ | .str _ | .nilp | .nils | .nilf | .nili | .nanb => .ret v
  | _ => .fail

def backCs (idb : Nat) (args : List PV) : List PV → Rd (List PV)
  | [] => .ret []
  | v :: vs => do let w ← backC idb args v; let ws ← backCs idb args vs; .ret (w :: ws)

def scalars : List PV → Bool
  | [] => true
  | .bool _ :: r | .int _ _ :: r | .flt _ _ :: r | .cplx _ _ _ :: r | .str _ :: r => scalars r
  | _ :: _ => false

def backE (idb : Nat) (args : List PV) (v : PV) : Rd PV :=
  match v with
  | .agg cs => bif scalars cs then .ret (.agg cs) else .fail
  | v => backC idb args v

def backEs (idb : Nat) (args : List PV) : List PV → Rd (List PV)
  | [] => .ret []
  | v :: vs => do let w ← backE idb args v; let ws ← backEs idb args vs; .ret (w :: ws)

def back (idb : Nat) (args : List PV) (v : PV) : Rd PV :=
  match v with
  | .tup vs => do let ws ← backEs idb args vs; .ret (.tup ws)
  | v => backE idb args v

def numbered (idb : Nat) : List Blk → List (Nat × Option Blk)
  | [] => []
  | b :: bs => (idb, some b) :: numbered (idb + 1) bs

def typedB : List Blk → Bool
  | [] => true
  | .typed _ _ _ :: r => typedB r
  | .cells _ :: _ => false

def callR (Γ : Gam) (idb : Nat) (f : FuncId) (args : List PV) : Rd OR := do
  let F ← lift (Γ.cons f)
  let as ← snaps 0 args
  let t ← lift (F as)
  let r ← t.rd
  let v ← back idb args r.v
  bif Nat.ble r.bl.length 8 && typedB r.bl then .ret ⟨v, numbered idb r.bl⟩ else .fail

def callM (M : MCon) (args : List PV) : Rd OR :=
  match args with
  | .own id :: ps => do
    match ← rblk id with
    | some (.typed e' c' xs) => do
      let ys ← lift (c'.cast M.c xs)
      let t ← lift (M.F ys ps)
      let q ← t.rd
      bif e' == M.e && plains ps && q.1.plain then .ret ⟨q.1, [(id, some (.typed M.e M.c q.2))]⟩ else .fail
    | _ => .fail
  | .nils :: ps => do
    let t ← lift (M.F [] ps)
    let q ← t.rd
    bif plains ps && q.1.plain then .ret ⟨q.1, []⟩ else .fail
  | _ => .fail

/-- What depends on no context, or a struct of such. -/
def PV.flatB : PV → Bool
  | .agg cs => scalars cs
  | p => p.plain

def mergeC : List (Option PV) → List PV → Option (List PV)
  | [], [] => some []
  | o :: os, p :: ps => match mergeC os ps with
    | some r => match o with
      | none => some (p :: r)
      | some q => bif q.plain then some (q :: r) else none
    | none => none
  | _, _ => none

/-- An argument beside a box. -/
def snapB (v : PV) : Rd PV :=
  match v with
  | .vslc _ c xs => .ret (.vslc 0 c xs)
  | .own id => do
    match ← rblk id with
    | some (.typed _ c xs) => .ret (.vslc 0 c xs)
    | _ => .fail
  | .boolK b => .ret (.bool b)
  | v => bif v.plain then .ret v else .fail

def snapBs : List PV → Rd (List PV)
  | [] => .ret []
  | v :: vs => do let w ← snapB v; let ws ← snapBs vs; .ret (w :: ws)

def callB (M : BCon) (args : List PV) : Rd OR :=
  match args with
  | .ptr id 0 :: ps => do
    match ← rblk id with
    | some (.cells cs) => do
      let cs0 ← snapCells cs
      let ps' ← snapBs ps
      let t ← lift (M cs0 ps')
      let q ← t.rd
      let cs' ← lift (mergeC q.2 cs)
      bif q.1.flatB then .ret ⟨q.1, [(id, some (.cells cs'))]⟩ else .fail
    | _ => .fail
  | _ => .fail

/-- A new box's cell in the caller's words. -/
def backN (args : List PV) (v : PV) : Rd PV :=
  match v with
  | .vslc (i + 1) _ _ => lift (lget args i)
  | v => bif v.plain then .ret v else .fail

def backNs (args : List PV) : List PV → Rd (List PV)
  | [] => .ret []
  | v :: vs => do let w ← backN args v; let ws ← backNs args vs; .ret (w :: ws)

def callN (M : NCon) (idb : Nat) (args : List PV) : Rd OR := do
  let as ← snaps 0 args
  let cs ← lift (M as)
  let cs' ← backNs args cs
  .ret ⟨.ptr idb 0, [(idb, some (.cells cs'))]⟩

/-- One operation: its value and what it writes. 'idb': the first of the eight numbers that are kept for its new blocks. -/
def opR (Γ : Gam) (T : TT) (idb : Nat) (o : Oper) : Rd OR :=
  match o.op with
  | .move x | .assign x => do okv (← rop x)
  | .pick c a b => do
    match ← rop c with
    | .bool v => do
      match ← rask (keyOf c) v with
      | true => do okv (← rop a)
      | false => do okv (← rop b)
    | .boolK true => do okv (← rop a)
    | .boolK false => do okv (← rop b)
    | _ => .fail
  | .alloc t => do
    let i ← ti T t
    .ret ⟨.ptr idb 0, [(idb, some (.cells i.zero))]⟩
  | .box _ x => do
    let v ← rop x
    let cs ← lift v.cellsOf
    .ret ⟨.ptr idb 0, [(idb, some (.cells cs))]⟩
  | .build t ps => do
    let i ← ti T t
    let vs ← rops2 ps.toList
    match i.d with
    | .struct fs => do
      let pl ← lift (sizes T fs)
      let cs ← lift (fillR (lget pl) i.zero vs)
      okv (.agg cs)
    | .arr _ e => do
      let j ← ti T e
      let cs ← lift (fillR (fun n => some (n * j.sz, j.sz)) i.zero vs)
      okv (.agg cs)
    | _ => .fail
  | .buildSlice t len ps => do
    let i ← ti T t
    let vs ← rops2 ps.toList
    match i.d with
    | .slc e => do
      let j ← ti T e
      match j.code with
      | some c => do
        let cs ← lift (fillR (fun n => some (n * j.sz, j.sz)) (repl j.zero len) vs)
        let xs ← lift (chunks c len cs)
        bif Nat.ble (len * j.sz) 16777216 && j.sz == c.size && j.zero.length == j.sz then .ret ⟨.own idb, [(idb, some (.typed e c xs))]⟩ else .fail
      | none => do
        let cs ← lift (fillR (fun n => some (n * j.sz, j.sz)) (repl j.zero len) vs)
        bif Nat.ble (len * j.sz) 16777216 && j.sz == 1 && j.zero.length == j.sz && cs.length == len && Nat.blt 0 len then .ret ⟨.lst cs, []⟩ else .fail
    | _ => .fail
  | .load t a => do
    let i ← ti T t
    let p ← rop a
    okv (← loadR i p)
  | .store t a x => do
    let i ← ti T t
    let p ← rop a
    let v ← rop x
    storeR i p v
  | .nilCheck x => do
    match ← rop x with
    | .ptr id j => okv (.ptr id j)
    | .eptr id sz i j => okv (.eptr id sz i j)
    | .vcell cs j => okv (.vcell cs j)
    | _ => .fail
  | .binOp op t x y _ => do
    let a ← rop x
    let b ← rop y
    okv (← binR T t op a b)
  | .unOp op _ x => do
    let a ← rop x
    okv (← unR op a)
  | .convert s d x => do
    let i ← ti T s
    let j ← ti T d
    let a ← rop x
    convO T idb s d i j a
  | .makeFunc fn f c => do
    let f' ← rops f.toList
    let c' ← rops c.toList
    okv (.func fn f' c')
  | .makeSlice t l m => do
    let i ← ti T t
    let a ← rop l
    let b ← rop m
    match i.d, a, b with
    | .slc e, .int _ n, .int _ m => do
      let j ← ti T e
      let c ← lift j.code
      let z ← lift (c.dec j.zero)
      need (decide (0 ≤ n) && decide (n ≤ m) && decide (j.bytes * m ≤ 281474976710656) && decide (m ≤ 9223372036854775807))
      bif j.sz == c.size then .ret ⟨.own idb, [(idb, some (.typed e c (List.replicate n.toNat z)))]⟩ else .fail
    | _, _, _ => .fail
  | .slice t x lo hi none => do
    let i ← ti T t
    let a ← rop x
    let l ← ropt lo
    let h ← ropt hi
    okv (← sliceR T i.d a l h)
  | .fieldAddr t x k => do
    let i ← ti T t
    let a ← rop x
    match i.d with
    | .struct fs => do
      let (o, ft) ← lift (lget fs k)
      let j ← ti T ft
      bif j.sz == 0 then .fail else do okv (← lift (moveR a o))
    | _ => .fail
  | .field t x k => do
    let i ← ti T t
    let a ← rop x
    match i.d, a with
    | .struct fs, .agg cs => do
      let (o, ft) ← lift (lget fs k)
      let j ← ti T ft
      okv (← lift (part j cs o))
    | _, _ => .fail
  | .indexAddr t x ix => do
    let i ← ti T t
    let a ← rop x
    let b ← rop ix
    okv (← idxR T i.d a b)
  | .index t x ix => do
    let i ← ti T t
    let a ← rop x
    let b ← rop ix
    okv (← indexR T i.d a b)
  | .extract x n => do
    match ← rop x with
    | .tup vs => do okv (← lift (lget vs n))
    | _ => .fail
  | .call c =>
    match c.callee with
    | .value f => do
      match ← rop f with
      | .func (.func g) first captured => do
        let args ← rops c.args.toList
        match Γ.boxs g with
        | some M => callB M (first ++ args ++ captured)
        | none => match Γ.news g with
          | some M => callN M idb (first ++ args ++ captured)
          | none => match Γ.muts g with
            | some M => callM M (first ++ args ++ captured)
            | none => callR Γ idb g (first ++ args ++ captured)
      | _ => .fail
    | .builtin .len =>
      match c.args.toList, c.argTypes.toList with
      | [x], [t] => do
        let i ← ti T t
        let a ← rop x
        okv (← lenR i.d a)
      | _, _ => .fail
    | .builtin .append =>
      match c.args.toList, c.argTypes.toList with
      | [x, y], [t, t'] => do
        let i ← ti T t
        match i.d with
        | .slc e => do
          let a ← rop x
          let b ← rop y
          bif t == t' then appendR T idb e a b else do
            let i' ← ti T t'
            match i'.d, b with
            | .str, .str l => appendS T idb e a l
            | _, _ => .fail
        | _ => .fail
      | _, _ => .fail
    | .builtin .min =>
      match c.args.toList with
      | [x, y] => do
        let a ← rop x
        let b ← rop y
        match a, b with
        | .int k n, .int _ m => okv (.int k (bif decide (m < n) then m else n))
        | .flt k n, .flt k' m => do
          need (decide (k = k') && ordOk k n m)
          okv (.flt k (fmin k n m))
        | _, _ => .fail
      | _ => .fail
    | .builtin .max =>
      match c.args.toList with
      | [x, y] => do
        let a ← rop x
        let b ← rop y
        match a, b with
        | .int k n, .int _ m => okv (.int k (bif decide (m > n) then m else n))
        | .flt k n, .flt k' m => do
          need (decide (k = k') && ordOk k n m)
          okv (.flt k (fmax k n m))
        | _, _ => .fail
      | _ => .fail
    | .builtin .complex =>
      match c.args.toList with
      | [x, y] => do
        let a ← rop x
        let b ← rop y
        match a, b with
        | .flt k n, .flt k' m => bif decide (k = k') then okv (.cplx k n m) else .fail
        | _, _ => .fail
      | _ => .fail
    | .builtin .real =>
      match c.args.toList with
      | [x] => do
        let a ← rop x
        match a with
        | .cplx k n _ => okv (.flt k n)
        | _ => .fail
      | _ => .fail
    | .builtin .imag =>
      match c.args.toList with
      | [x] => do
        let a ← rop x
        match a with
        | .cplx k _ m => okv (.flt k m)
        | _ => .fail
      | _ => .fail
    | _ => .fail
  | _ => .fail

end Go.Proofs.Ytilfdpllleninaa
