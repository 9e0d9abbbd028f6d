/- What an operation does that asks no memory: its value, by the values of its operands; and that the model's operation has just that value. -/
import Derived.Test.YtnlacfnniflkdaaGreatDoorNB
import Derived.Laws.Entries
import Derived.Laws.StructEq
import Derived.ChangeKeysEq
import GoSem.Core.Layout
namespace Go.WeftN

structure TI where
  desc : TypeDesc
  size : Nat
  bytes : Nat
  zero : Value

structure Env where
  ty : TypeId → Option TI
  glob : Nat → Bool
  lies : TypeId → Nat → Nat → TypeId → Bool
  eqs : TypeId → Option (List (Nat × TypeDesc))

def known : Value → Bool
  | .complex _ _ _ => false
  | _ => true

def isBasicD : TypeDesc → Bool
  | .bool | .int _ | .string => true
  | _ => false

/-- A struct's fields: where each lies, and its basic type. -/
def eqFieldsOk (P : Program) : List Field → List (Nat × TypeDesc) → Prop
  | [], [] => True
  | f :: fs, (o, d) :: l => f.name ≠ "_" ∧ f.offset = o ∧ P.underlying f.type = some d ∧ isBasicD d = true ∧ eqFieldsOk P fs l
  | _, _ => False

structure EnvOk (P : Program) (E : Env) : Prop where
  und : ∀ t i, E.ty t = some i → P.underlying t = some i.desc
  info : ∀ t i, E.ty t = some i → ∃ j, P.info? t = some j ∧ j.size = i.size ∧ j.bytes = i.bytes ∧ j.zero = some i.zero
  zero : ∀ t i, E.ty t = some i → ∀ e, VRel e i.zero i.zero
  lies : ∀ e n o u, E.lies e n o u = true → ∀ i, E.ty e = some i → 0 < i.size → liesAt P P.depth e (n / i.size) o u 1 = true
  eqs : ∀ t l, E.eqs t = some l → P.stoodInHeld t = false ∧ P.eqGuardType P.depth t = false ∧ ∃ fs, P.underlying t = some (.struct fs) ∧ eqFieldsOk P fs.toList l
  zknown : ∀ t i, E.ty t = some i → known i.zero = true
  zsize : ∀ t i, E.ty t = some i → i.zero.cells.size = i.size

def isAggD : TypeDesc → Bool
  | .struct _ | .array _ _ => true
  | _ => false

section runs
variable {P : Program} {E : Env} (h : EnvOk P E) {t : TypeId} {i : TI} (ht : E.ty t = some i) (w : World)
include h ht
theorem run_und : (underlying t).run P w = .ok i.desc w := run_underlying (h.und t i ht) w
theorem run_size : (sizeOf t).run P w = .ok i.size w := by
  obtain ⟨j, hj, h1, _⟩ := h.info t i ht
  simp [sizeOf, run_typeInfo w hj, h1]
theorem run_zero : (zeroValue t).run P w = .ok i.zero w := by
  obtain ⟨j, hj, _, _, h1⟩ := h.info t i ht
  simp [zeroValue, run_typeInfo w hj, h1]
theorem run_bytes : ∃ j, (typeInfo t).run P w = .ok j w ∧ j.bytes = i.bytes := by
  obtain ⟨j, hj, _, h1, _⟩ := h.info t i ht
  exact ⟨j, run_typeInfo w hj, h1⟩
theorem run_agg : (isAgg t).run P w = .ok (isAggD i.desc) w := by
  unfold isAgg
  simp only [Sem.run_bind, run_und h ht, Result.andThen_ok]
  cases i.desc <;> rfl
end runs

/-- A part of an aggregate. -/
def apart (E : Env) (t : TypeId) (cs : Array Value) (off : Nat) : Option Value :=
  match E.ty t with
  | none => none
  | some i => bif isAggD i.desc then (if off + i.size ≤ cs.size then some (.agg (cs.extract off (off + i.size))) else none) else cs[off]?

theorem ARel.extract {e : Emb} {a b : Array Value} (r : ARel e a b) (m n : Nat) : ARel e (a.extract m n) (b.extract m n) := by
  refine ⟨by simp [r.1], fun i v v' x y => ?_⟩
  rw [Array.getElem?_extract] at x y
  split at x
  · rename_i hi; rw [if_pos (by rw [← r.1]; exact hi)] at y; exact r.2 _ v v' x y
  · cases x

theorem apart_ok {P : Program} {E : Env} (h : EnvOk P E) {e : Emb} {t : TypeId} {cs cs' : Array Value} {off : Nat} {v : Value} (r : ARel e cs cs') (hp : apart E t cs off = some v) (w : World) :
    ∃ v', (part t cs' off).run P w = .ok v' w ∧ VRel e v v' := by
  unfold apart at hp
  split at hp
  · cases hp
  · rename_i i hi
    unfold part
    simp only [Sem.run_bind, run_agg h hi, Result.andThen_ok]
    cases hg : isAggD i.desc with
    | true =>
      rw [hg, cond_true] at hp
      split at hp
      · cases hp
        refine ⟨.agg (cs'.extract off (off + i.size)), ?_, ?_⟩
        · simp [run_size h hi]
        · have := r.extract off (off + i.size); exact .agg this.1 this.2
      · cases hp
    | false =>
      rw [hg, cond_false] at hp
      obtain ⟨v', hv', hr⟩ := r.get hp
      exact ⟨v', by simp [hv'], hr⟩

abbrev Rho := Operand → Value
def RhoRel (e : Emb) (ρ ρ' : Rho) : Prop := ∀ x, VRel e (ρ x) (ρ' x)

/-- '==' where no memory is asked: with nil, of bools, of numbers and texts. -/
def eqV (d : TypeDesc) (x y : Value) : Option Bool :=
  match d, x, y with
  | .bool, .bool a, .bool b => some (a == b)
  | .pointer _, .pointer none, .pointer none => some true
  | .pointer _, .pointer none, .pointer (some ⟨_, _, none⟩) => some false
  | .pointer _, .pointer (some ⟨_, _, none⟩), .pointer none => some false
  | .interface _, .nilIface, .nilIface => some true
  | .interface _, .nilIface, .iface _ _ => some false
  | .interface _, .iface _ _, .nilIface => some false
  | .slice _, .slice none 0 0, .slice none 0 0 => some true
  | .slice _, .slice none 0 0, .slice (some ⟨_, _, none⟩) _ _ => some false
  | .slice _, .slice (some ⟨_, _, none⟩) _ _, .slice none 0 0 => some false
  | .map _ _, .map none, .map none => some true
  | .map _ _, .map none, .map (some _) => some false
  | .map _ _, .map (some _), .map none => some false
  | .func _ _ _, .nilFunc, .nilFunc => some true
  | .func _ _ _, .nilFunc, .func _ _ _ => some false
  | .func _ _ _, .func _ _ _, .nilFunc => some false
  | _, _, _ => none

theorem eqV_ok {P : Program} {e : Emb} {t : TypeId} {d : TypeDesc} (hu : P.underlying t = some d) {x y x' y' : Value} {b : Bool} (hx : VRel e x x') (hy : VRel e y y') (h : eqV d x y = some b) (w : World) :
    (Op.equal t x' y').run P w = .ok b w := by
  show (Op.equalIn (9999 + 1) t x' y').run P w = _
  generalize 9999 = n
  unfold eqV at h
  split at h <;> cases h <;> cases hx <;> cases hy <;> simp [Op.equalIn, run_underlying hu]

def arithV (op : BinOp) (k : IntKind) (a b : Int) : Option Value :=
  match op with
  | .add => some (.int k (k.wrap (a + b)))
  | .sub => some (.int k (k.wrap (a - b)))
  | .mul => some (.int k (k.wrap (a * b)))
  | .quo => if b = 0 then none else some (.int k (k.wrap (a.tdiv b)))
  | .rem => if b = 0 then none else some (.int k (a.tmod b))
  | .and => some (.int k (k.wrap (BitVec.ofInt k.bits a &&& BitVec.ofInt k.bits b).toNat))
  | .or => some (.int k (k.wrap (BitVec.ofInt k.bits a ||| BitVec.ofInt k.bits b).toNat))
  | .xor => some (.int k (k.wrap (BitVec.ofInt k.bits a ^^^ BitVec.ofInt k.bits b).toNat))
  | .andNot => some (.int k (k.wrap (BitVec.ofInt k.bits a &&& ~~~ BitVec.ofInt k.bits b).toNat))
  | .eql => some (.bool (a == b))
  | .neq => some (.bool (a != b))
  | .lss => some (.bool (decide (a < b)))
  | .leq => some (.bool (decide (a ≤ b)))
  | .gtr => some (.bool (decide (a > b)))
  | .geq => some (.bool (decide (a ≥ b)))
  | _ => none

def shiftV (op : BinOp) (k : IntKind) (x y : Int) : Option Value :=
  if y < 0 then none else
  match op with
  | .shl => some (.int k (k.wrap (x * 2 ^ (min y.toNat k.bits))))
  | .shr => some (.int k (x.fdiv (2 ^ (min y.toNat k.bits))))
  | _ => none

def eqB : List UInt8 → List UInt8 → Bool
  | [], [] => true
  | a :: x, b :: y => bif Nat.beq a.toNat b.toNat then eqB x y else false
  | _, _ => false
def lessB : List UInt8 → List UInt8 → Bool
  | _, [] => false
  | [], _ :: _ => true
  | a :: x, b :: y => bif Nat.blt a.toNat b.toNat then true else bif Nat.beq a.toNat b.toNat then lessB x y else false

theorem eqB_eq : ∀ (x y : List UInt8), eqB x y = (x == y)
  | [], [] => rfl
  | [], _ :: _ => rfl
  | _ :: _, [] => rfl
  | a :: x, b :: y => by
    have h1 : Nat.beq a.toNat b.toNat = (a == b) := by
      cases h : (a == b) with
      | true => rw [beq_iff_eq] at h; subst h; exact Nat.beq_refl _
      | false =>
        cases h2 : Nat.beq a.toNat b.toNat with
        | false => rfl
        | true => have := UInt8.toNat_inj.1 (Nat.eq_of_beq_eq_true h2); subst this; simp at h
    simp only [eqB, h1, eqB_eq x y]
    show _ = (a == b && x == y)
    cases (a == b) <;> rfl
theorem lessB_eq : ∀ (x y : List UInt8), lessB x y = Op.bytesLess x y
  | [], [] => rfl
  | [], _ :: _ => rfl
  | _ :: _, [] => rfl
  | a :: x, b :: y => by
    have h1 : Nat.beq a.toNat b.toNat = (a == b) := by
      have := eqB_eq [a] [b]
      simpa [eqB] using this
    have h2 : Nat.blt a.toNat b.toNat = decide (a < b) := by
      rw [Bool.eq_iff_iff, decide_eq_true_iff, UInt8.lt_iff_toNat_lt]
      exact ⟨fun h => Nat.le_of_ble_eq_true h, fun h => Nat.ble_eq_true_of_le h⟩
    simp only [lessB, Op.bytesLess, h1, h2, lessB_eq x y]
    cases decide (a < b) <;> cases (a == b) <;> rfl

theorem byteApp (x y : ByteArray) : x ++ y = ⟨(x.data.toList ++ y.data.toList).toArray⟩ := by
  obtain ⟨⟨a⟩⟩ := x
  obtain ⟨⟨b⟩⟩ := y
  apply ByteArray.ext
  simp [ByteArray.data_append]

def strV (op : BinOp) (x y : ByteArray) : Option Value :=
  match op with
  | .add => if ((x.size + y.size : Nat) : Int) > IntKind.i64.max then none else some (.string ⟨(x.data.toList ++ y.data.toList).toArray⟩)
  | .eql => some (.bool (eqB x.data.toList y.data.toList))
  | .neq => some (.bool (!(eqB x.data.toList y.data.toList)))
  | .lss => some (.bool (lessB x.data.toList y.data.toList))
  | .leq => some (.bool (lessB x.data.toList y.data.toList || eqB x.data.toList y.data.toList))
  | .gtr => some (.bool (!(lessB x.data.toList y.data.toList || eqB x.data.toList y.data.toList)))
  | .geq => some (.bool (!(lessB x.data.toList y.data.toList)))
  | _ => none

def isConstO : Operand → Bool
  | .const _ => true
  | _ => false

/-- May '==' be asked of these two here? (Two nils of an interface type: one of them the literal.) -/
def eqMay (x y : Operand) (a b : Value) : Bool :=
  match a, b with
  | .nilIface, .nilIface => isConstO x || isConstO y
  | .agg _, _ | _, .agg _ => false
  | .complex _ _ _, _ | _, .complex _ _ _ => false
  | _, _ => true

def binV (E : Env) (op : BinOp) (t : TypeId) (x y : Operand) (a b : Value) : Option Value :=
  match a, b with
  | .int k m, .int j n =>
    match op with
    | .shl | .shr => shiftV op k m n
    | _ => if k = j then arithV op k m n else none
  | .string m, .string n => strV op m n
  | a, b =>
    match op with
    | .eql => if eqMay x y a b then (E.ty t).bind fun i => (eqV i.desc a b).map .bool else none
    | .neq => if eqMay x y a b then (E.ty t).bind fun i => (eqV i.desc a b).map fun c => .bool (!c) else none
    | _ => none

theorem eqGuard_none {P : Program} {op : BinOp} {t : TypeId} {x y : Operand} {e : Emb} {a b a' b' : Value} (ha : VRel e a a') (hb : VRel e b b') (h : eqMay x y a b = true) (w : World) :
    (eqGuard op t x y a' b').run P w = .ok () w := by
  cases ha <;> first
    | (simp [eqMay] at h; done)
    | (cases hb <;> first
        | (simp [eqMay] at h; done)
        | (cases op <;> simp [eqGuard]; done)
        | (simp only [eqMay] at h
           cases x <;> cases y <;> simp [isConstO] at h <;> cases op <;> simp [eqGuard]))

theorem binOp_int {P : Program} {op : BinOp} {t : TypeId} {k j : IntKind} {m n : Int} {v : Value} (h : (match op with | .shl | .shr => shiftV op k m n | _ => if k = j then arithV op k m n else none) = some v) (w : World) :
    (binOp op t (.int k m) (.int j n)).run P w = .ok v w := by
  cases op <;> simp only [shiftV, arithV] at h
  case shl => split at h <;> cases h; rename_i hy; simp [binOp, Op.shift, hy]
  case shr => split at h <;> cases h; rename_i hy; simp [binOp, Op.shift, hy]
  case quo =>
    split at h
    · rename_i hk; subst hk
      split at h <;> cases h; rename_i hb; simp [binOp, Op.intDiv, hb]
    · cases h
  case rem =>
    split at h
    · rename_i hk; subst hk
      split at h <;> cases h; rename_i hb; simp [binOp, Op.intDiv, hb]
    · cases h
  all_goals
    split at h
    · rename_i hk; subst hk; cases h; simp [binOp, Op.intArith, Op.intBits, Op.intCmp]
    · cases h

theorem binOp_str {P : Program} {op : BinOp} {t : TypeId} {m n : ByteArray} {v : Value} (h : strV op m n = some v) (w : World) :
    (binOp op t (.string m) (.string n)).run P w = .ok v w := by
  cases op <;> simp only [strV] at h
  case add => split at h <;> cases h; rename_i hy; simp only [binOp, Op.stringOp]; rw [if_neg hy, byteApp]; rfl
  all_goals cases h <;> simp [binOp, Op.stringOp, eqB_eq, lessB_eq, ByteArray.toList_eq]

theorem binV_ok {P : Program} {E : Env} (hE : EnvOk P E) {op : BinOp} {t : TypeId} {x y : Operand} {e : Emb} {a b a' b' v : Value} (ha : VRel e a a') (hb : VRel e b b') (h : binV E op t x y a b = some v) (w : World) :
    ((do eqGuard op t x y a' b'; binOp op t a' b') : Sem Value).run P w = .ok v w ∧ VRel e v v := by
  unfold binV at h
  split at h
  · cases ha; cases hb
    refine ⟨?_, ?_⟩
    · simp only [Sem.run_bind]
      rw [eqGuard_none (e := e) (.int _ _) (.int _ _) (by rfl)]
      exact binOp_int h w
    · cases op <;> simp only [shiftV, arithV] at h <;> (repeat' split at h) <;> cases h <;> constructor
  · cases ha; cases hb
    refine ⟨?_, ?_⟩
    · simp only [Sem.run_bind]
      rw [eqGuard_none (e := e) (.string _) (.string _) (by rfl)]
      exact binOp_str h w
    · cases op <;> simp only [strV] at h <;> (repeat' split at h) <;> cases h <;> constructor
  · split at h
    · split at h
      · rename_i hm
        obtain ⟨i, hi, h⟩ := Option.bind_eq_some_iff.1 h
        obtain ⟨c, hc, rfl⟩ := Option.map_eq_some_iff.1 h
        refine ⟨?_, .bool _⟩
        simp only [Sem.run_bind]
        rw [eqGuard_none ha hb hm]
        have he := eqV_ok (hE.und t i hi) ha hb hc w
        revert he
        unfold eqV at hc
        split at hc <;> cases hc <;> cases ha <;> cases hb <;> intro he <;> simp [binOp, he]
      · cases h
    · split at h
      · rename_i hm
        obtain ⟨i, hi, h⟩ := Option.bind_eq_some_iff.1 h
        obtain ⟨c, hc, rfl⟩ := Option.map_eq_some_iff.1 h
        refine ⟨?_, .bool _⟩
        simp only [Sem.run_bind]
        rw [eqGuard_none ha hb hm]
        have he := eqV_ok (hE.und t i hi) ha hb hc w
        revert he
        unfold eqV at hc
        split at hc <;> cases hc <;> cases ha <;> cases hb <;> intro he <;> simp [binOp, he]
      · cases h
    · cases h

end Go.WeftN
