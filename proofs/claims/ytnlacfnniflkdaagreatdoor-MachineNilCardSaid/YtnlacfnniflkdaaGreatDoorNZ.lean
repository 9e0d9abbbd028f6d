/- Regions whose order is drawn: one run for all orders. -/
import Derived.Test.YtnlacfnniflkdaaGreatDoorNX
import Derived.Orders
namespace Go.WeftN

noncomputable section

/-! ### Equality of values, as far as it is asked -/
def listEq (f : Value → Value → Bool) : List Value → List Value → Bool
  | [], [] => true
  | a :: x, b :: y => bif f a b then listEq f x y else false
  | _, _ => false

def addrEq (a b : Addr) : Bool :=
  match a, b with
  | ⟨i, o, none⟩, ⟨j, u, none⟩ => Nat.beq i j && Nat.beq o u
  | _, _ => false

def valEq : Nat → Value → Value → Bool
  | 0, _, _ => false
  | n + 1, a, b => match a, b with
    | .bool a, .bool b => a == b
    | .int k a, .int j b => decide (k = j) && a == b
    | .string a, .string b => eqB a.data.toList b.data.toList
    | .pointer none, .pointer none => true
    | .pointer (some a), .pointer (some b) => addrEq a b
    | .slice none l c, .slice none m d => Nat.beq l m && Nat.beq c d
    | .slice (some a) l c, .slice (some b) m d => addrEq a b && Nat.beq l m && Nat.beq c d
    | .map none, .map none => true
    | .map (some a), .map (some b) => Nat.beq a b
    | .nilFunc, .nilFunc => true
    | .nilIface, .nilIface => true
    | .iface t v, .iface u w => Nat.beq t u && valEq n v w
    | .func (.func f) a b, .func (.func g) c d => Nat.beq f g && listEq (valEq n) a.toList c.toList && listEq (valEq n) b.toList d.toList
    | .agg a, .agg b => listEq (valEq n) a.toList b.toList
    | .tuple a, .tuple b => listEq (valEq n) a.toList b.toList
    | _, _ => false

/-! ### Sets of numbers -/
def bit (m i : Nat) : Bool := Nat.beq (Nat.mod (Nat.shiftRight m i) 2) 1
def bitOf (i : Nat) : Nat := Nat.shiftLeft 1 i

/-- What is known of an operation that has run: its value, the operations before it, where its value goes, what it looks at; what it makes; what it reads; does it turn anything? -/
structure PE where
  v : Value
  pre : Nat
  dst : Option Tmp
  rd : List Tmp
  ob : Option AObj
  rf : Option (Tr → Option Value)
  ch : Bool

/-- What the turning operations have left; the names of new objects that are in the heap already. -/
structure St where
  ds : List ADef
  up : Option Chain
  H : AHeap
  mg : Nat

/-- The operations before one, of those that have run (the latest first). -/
def preM (res : List PE) (i : Nat) : List Edge → Option Nat
  | [] => some 0
  | e :: es => match preM res i es with
    | none => none
    | some m => bif Region.binds .any e then
        bif Nat.blt e.on i then match res[i - 1 - e.on]? with
          | some x => some (Nat.lor m (Nat.lor x.pre (bitOf e.on)))
          | none => none
        else none
      else some m

/-- The latest value of a temporary. -/
def lookW : List PE → Tmp → Option Value
  | [], _ => none
  | x :: res, t => match x.dst with
    | some d => bif Nat.beq d t then some x.v else lookW res t
    | none => lookW res t

def hasT (l : List Tmp) (t : Tmp) : Bool := l.any (Nat.beq t)
def hasO (l : List Tmp) : Option Tmp → Bool
  | some t => hasT l t
  | none => false
def sameO : Option Tmp → Option Tmp → Bool
  | some a, some b => Nat.beq a b
  | _, _ => false

def tmpNow (a0 : AAct) (res : List PE) (t : Tmp) : Value :=
  match lookW res t with
  | some v => v
  | none => (a0.tm.get t).getD undef

/-- Operands' values: of the temporaries that are looked at only. -/
def rhoD (E : Env) (a0 : AAct) (res : List PE) (rd : List Tmp) (x : Operand) : Value :=
  match x with
  | .tmp t => bif hasT rd t then tmpNow a0 res t else poison
  | x => aev E a0.tm x

def wantedD (ops : Array Oper) (a0 : AAct) (res : List PE) (rd : List Tmp) (o : Oper) : Option Bool :=
  match o.guard with
  | none => some true
  | some (j, want) => match (ops.toList[j]?).bind (·.dst) with
    | none => some false
    | some d => bif hasT rd d then match tmpNow a0 res d with
        | .bool b => some (b == want)
        | .complex _ _ _ => none
        | _ => some false
      else none

/-- Is an operation in its place among those before? -/
def inPlace (pre : Nat) (dst : Option Tmp) (rd : List Tmp) (ch : Bool) : List PE → Bool
  | [] => true
  | x :: res => bif bit pre res.length || !(hasO rd x.dst || sameO dst x.dst || hasO x.rd dst || (ch && x.ch)) then inPlace pre dst rd ch res else false

/-- The new objects of some operations. -/
def addP (base : Nat) (pre mg : Nat) : List PE → Tr → Tr
  | [], t => t
  | x :: res, t => match x.ob with
    | some o => bif bit pre res.length && !(bit mg res.length) then (addP base pre mg res t).set (base + res.length) (some o) else addP base pre mg res t
    | none => addP base pre mg res t

def k0 (v : Value) (ds : List ADef) (up : Option Chain) (H : AHeap) : OpRes := .next ⟨.node (some v) .nil .nil, ds, up⟩ H
def kp0 (ch : Chain) (H : AHeap) : OpRes := .panic ch ⟨.nil, [], none⟩ H

structure DP where
  res : List PE
  sts : List St

def dstOk (tm : Tm) : Option Tmp → Bool
  | some d => (tm.get d).isSome
  | none => true

/-- One operation more. -/
def opD (T : Tab) (ec : EC) (fi : FI) (ops : Array Oper) (a0 : AAct) (base : Nat) (o : Oper) (s : DP) : Option DP :=
  let i := s.res.length
  let rd := o.looksAt ops
  match preM s.res i o.after.toList, s.sts with
  | some pre, st :: _ => bif !(dstOk a0.tm o.dst) then none else match wantedD ops a0 s.res rd o with
    | none => none
    | some false => bif inPlace pre o.dst rd false s.res then some ⟨⟨undef, pre, o.dst, rd, none, none, false⟩ :: s.res, s.sts⟩ else none
    | some true =>
      let ρ := rhoD T.E a0 s.res rd
      match effOf T.E ρ o with
      | none => none
      | some (.pure v) => bif inPlace pre o.dst rd false s.res then some ⟨⟨v, pre, o.dst, rd, none, none, false⟩ :: s.res, s.sts⟩ else none
      | some (.read f) => bif inPlace pre o.dst rd false s.res then match f (addP base pre st.mg s.res st.H.t) with
          | some v => some ⟨⟨v, pre, o.dst, rd, none, some f, false⟩ :: s.res, s.sts⟩
          | none => none
        else none
      | some (.alloc m) => bif inPlace pre o.dst rd false s.res then some ⟨⟨m.val (base + i), pre, o.dst, rd, some m.obj, none, false⟩ :: s.res, s.sts⟩ else none
      | some _ => bif inPlace pre o.dst rd true s.res then
          match opRunG T ec fi ρ o st.up ⟨addP base pre st.mg s.res st.H.t, st.H.next⟩ k0 kp0 with
          | some [.next a1 H1] => some ⟨⟨(a1.tm.get 0).getD undef, pre, o.dst, rd, none, none, true⟩ :: s.res, ⟨addDefs a1.defers st.ds, a1.up, H1, Nat.lor st.mg pre⟩ :: s.sts⟩
          | _ => none
        else none
  | _, _ => none

def passD (T : Tab) (ec : EC) (fi : FI) (ops : Array Oper) (a0 : AAct) (base : Nat) : List Oper → DP → Option DP
  | [], s => some s
  | o :: l, s => match opD T ec fi ops a0 base o s with
    | none => none
    | some s1 => passD T ec fi ops a0 base l s1

/-- How many of the turning operations are among some; how many may be before one. -/
def cntPre (pre : Nat) : List PE → Nat
  | [] => 0
  | x :: res => bif x.ch && bit pre res.length then cntPre pre res + 1 else cntPre pre res
def cntNot (i : Nat) : List PE → Nat
  | [] => 0
  | x :: res => bif x.ch && !(bit x.pre i) then cntNot i res + 1 else cntNot i res

/-- The same is read in every heap from lo to hi (states are the latest first, p the latest's number). -/
def sameRead (base : Nat) (res : List PE) (pre : Nat) (f : Tr → Option Value) (v : Value) (lo hi : Nat) : List St → Bool
  | [] => true
  | st :: sts => (bif Nat.ble lo sts.length && Nat.ble sts.length hi then match f (addP base pre st.mg res st.H.t) with
      | some v' => valEq 5 v v'
      | none => false
    else true) && sameRead base res pre f v lo hi sts

def readsOk (base : Nat) (all : List PE) (sts : List St) : List PE → Bool
  | [] => true
  | x :: res => (match x.rf with
    | some f => sameRead base res x.pre f x.v (cntPre x.pre res) (cntNot res.length all) sts
    | none => true) && readsOk base all sts res

def putsD : List PE → Tm → Tm
  | [], t => t
  | x :: res, t => putT (putsD res t) x.dst x.v

def drawD (T : Tab) : Draw := fun ec fi ops a H =>
  match passD T ec fi ops a H.next ops.toList ⟨[], [⟨a.defers, a.up, ⟨H.t, H.next + ops.toList.length⟩, 0⟩]⟩ with
  | some ⟨res, st :: sts⟩ =>
    bif readsOk H.next res (st :: sts) res then
      some [.code .normal ⟨putsD res a.tm, st.ds, st.up⟩ ⟨addP H.next (Nat.sub (bitOf res.length) 1) st.mg res st.H.t, st.H.next⟩]
    else none
  | _ => none

end

end Go.WeftN
