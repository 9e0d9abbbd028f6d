/- A plain evaluator of Go's operations over a heap of named objects: its objects, its names, and what it means that a world bears such a heap. -/
import Derived.Control
import Derived.Laws.Sem
import Derived.Laws.World
namespace Go.WeftN

/-! ### Any table by number -/
inductive Bt (α : Type) where
  | nil
  | node (o : Option α) (l r : Bt α)

noncomputable def Bt.get {α : Type} (t : Bt α) : Nat → Option α :=
  Bt.rec (fun _ => none) (fun o _ _ ihl ihr n => Nat.rec o (fun k _ => Bool.rec (ihr (Nat.div k 2)) (ihl (Nat.div k 2)) (Nat.beq (Nat.mod k 2) 0)) n) t

/-- Another value where there is one. -/
noncomputable def Bt.put {α : Type} (t : Bt α) : Nat → α → Bt α :=
  Bt.rec (fun _ _ => .nil) (fun o l r ihl ihr n v => Nat.rec (.node (Option.rec none (fun _ => some v) o) l r) (fun k _ => Bool.rec (.node o l (ihr (Nat.div k 2) v)) (.node o (ihl (Nat.div k 2) v) r) (Nat.beq (Nat.mod k 2) 0)) n) t

/-- The first n places, each with the same. -/
noncomputable def Bt.full {α : Type} (x : α) : Nat → Nat → Bt α := Nat.rec (fun _ => .nil) fun _ ih n => Nat.rec .nil (fun m _ => .node (some x) (ih (Nat.div (m + 1) 2)) (ih (Nat.div m 2))) n

theorem Bt.get_nil {α : Type} (n : Nat) : (Bt.nil : Bt α).get n = none := rfl
theorem Bt.get_zero {α : Type} (o : Option α) (l r : Bt α) : (Bt.node o l r).get 0 = o := rfl
theorem Bt.get_succ {α : Type} (o : Option α) (l r : Bt α) (k : Nat) : (Bt.node o l r).get (k + 1) = bif Nat.beq (k % 2) 0 then l.get (k / 2) else r.get (k / 2) := by
  show (Bool.rec (r.get (k / 2)) (l.get (k / 2)) (Nat.beq (k % 2) 0) : Option α) = _
  cases Nat.beq (k % 2) 0 <;> rfl

theorem Bt.put_zero {α : Type} (o : Option α) (l r : Bt α) (v : α) : (Bt.node o l r).put 0 v = .node (o.map fun _ => v) l r := by cases o <;> rfl
theorem Bt.put_succ {α : Type} (o : Option α) (l r : Bt α) (k : Nat) (v : α) : (Bt.node o l r).put (k + 1) v = bif Nat.beq (k % 2) 0 then .node o (l.put (k / 2) v) r else .node o l (r.put (k / 2) v) := by
  show (Bool.rec (.node o l (r.put (k / 2) v)) (.node o (l.put (k / 2) v) r) (Nat.beq (k % 2) 0) : Bt α) = _
  cases Nat.beq (k % 2) 0 <;> rfl

theorem Bt.get_put {α : Type} (v : α) : ∀ (t : Bt α) (d i : Nat), (t.put d v).get i = if i = d then (t.get i).map (fun _ => v) else t.get i
  | .nil, d, i => by show (Bt.nil : Bt α).get i = _; simp [Bt.get_nil]
  | .node o l r, 0, i => by
    rw [Bt.put_zero]
    cases i with
    | zero => simp [Bt.get_zero]
    | succ i => rw [Bt.get_succ, Bt.get_succ]; simp
  | .node o l r, k + 1, i => by
    rw [Bt.put_succ]
    cases hk : Nat.beq (k % 2) 0 with
    | true =>
      have h0 : k % 2 = 0 := Nat.eq_of_beq_eq_true hk
      rw [cond_true]
      cases i with
      | zero => simp [Bt.get_zero]
      | succ i =>
        rw [Bt.get_succ, Bt.get_succ, Bt.get_put v l]
        cases hi : Nat.beq (i % 2) 0 with
        | true =>
          have h1 : i % 2 = 0 := Nat.eq_of_beq_eq_true hi
          rw [cond_true, cond_true]
          by_cases he : i / 2 = k / 2
          · rw [if_pos he, if_pos (by omega)]
          · rw [if_neg he, if_neg (by omega)]
        | false =>
          have h1 : i % 2 ≠ 0 := fun he => by rw [he] at hi; cases hi
          rw [cond_false, cond_false, if_neg (by omega)]
    | false =>
      have h0 : k % 2 ≠ 0 := fun he => by rw [he] at hk; cases hk
      rw [cond_false]
      cases i with
      | zero => simp [Bt.get_zero]
      | succ i =>
        rw [Bt.get_succ, Bt.get_succ, Bt.get_put v r]
        cases hi : Nat.beq (i % 2) 0 with
        | true =>
          have h1 : i % 2 = 0 := Nat.eq_of_beq_eq_true hi
          rw [cond_true, cond_true, if_neg (by omega)]
        | false =>
          have h1 : i % 2 ≠ 0 := fun he => by rw [he] at hi; cases hi
          rw [cond_false, cond_false]
          by_cases he : i / 2 = k / 2
          · rw [if_pos he, if_pos (by omega)]
          · rw [if_neg he, if_neg (by omega)]

theorem Bt.get_full {α : Type} (x : α) : ∀ (f n i : Nat), n ≤ f → (Bt.full x f n).get i = if i < n then some x else none
  | 0, n, i, h => by
    have : n = 0 := by omega
    subst this
    show (Bt.nil : Bt α).get i = _
    simp [Bt.get_nil]
  | f + 1, 0, i, h => by show (Bt.nil : Bt α).get i = _; simp [Bt.get_nil]
  | f + 1, m + 1, i, h => by
    show (Bt.node (some x) (Bt.full x f ((m + 1) / 2)) (Bt.full x f (m / 2))).get i = _
    cases i with
    | zero => simp [Bt.get_zero]
    | succ i =>
      rw [Bt.get_succ, Bt.get_full x f _ _ (by omega), Bt.get_full x f _ _ (by omega)]
      cases hi : Nat.beq (i % 2) 0 with
      | true =>
        have h1 : i % 2 = 0 := Nat.eq_of_beq_eq_true hi
        rw [cond_true]
        by_cases hl : i + 1 < m + 1
        · rw [if_pos hl, if_pos (by omega)]
        · rw [if_neg hl, if_neg (by omega)]
      | false =>
        have h1 : i % 2 ≠ 0 := fun he => by rw [he] at hi; cases hi
        rw [cond_false]
        by_cases hl : i + 1 < m + 1
        · rw [if_pos hl, if_pos (by omega)]
        · rw [if_neg hl, if_neg (by omega)]

/-- Temporaries. -/
abbrev Tm := Bt Value

/-- What a name stands for: 'cells' that may be written; 'rom' that are only read; a map; walks of maps and strings; a loop over a function's record; a block of deferred calls that has none. -/
structure ALoop where
  state : LoopState
  pending : Option Code
  fn : FuncId
  tm : Tm
  params : Array Tmp
  assign : Code
  body : Code
  defers : Nat

inductive AObj where
  | cells (cs : List Value) (exact : Bool) (fz : Nat) (elem : TypeId)
  | rom (cs : List Value)
  | map (es : List MapEntry) (clock : Nat)
  | miter (m : Option Nat) (since : Nat) (seen : List Nat) (stepped : Nat)
  | siter (s : ByteArray) (pos : Nat)
  | loop (l : ALoop)
  | nodefers

def AObj.writable : AObj → Bool
  | .rom _ => false
  | _ => true

/-! ### A table by number -/
inductive Tr where
  | nil
  | node (o : Option AObj) (l r : Tr)

def Tr.get : Tr → Nat → Option AObj
  | .nil, _ => none
  | .node o l r, n => match n with
    | 0 => o
    | k + 1 => bif Nat.beq (k % 2) 0 then l.get (k / 2) else r.get (k / 2)

def Tr.here : Tr → Option AObj
  | .nil => none
  | .node o _ _ => o
def Tr.left : Tr → Tr
  | .nil => .nil
  | .node _ l _ => l
def Tr.right : Tr → Tr
  | .nil => .nil
  | .node _ _ r => r

def Tr.setF : Nat → Tr → Nat → Option AObj → Tr
  | 0, t, _, _ => t
  | f + 1, t, n, o => match n with
    | 0 => .node o t.left t.right
    | k + 1 => bif Nat.beq (k % 2) 0 then .node t.here (Tr.setF f t.left (k / 2) o) t.right else .node t.here t.left (Tr.setF f t.right (k / 2) o)

def Tr.set (t : Tr) (n : Nat) (o : Option AObj) : Tr := Tr.setF (n + 1) t n o

theorem Tr.get_nil (n : Nat) : Tr.nil.get n = none := by cases n <;> rfl
theorem Tr.get_zero (t : Tr) : t.get 0 = t.here := by cases t <;> rfl
theorem Tr.get_succ (t : Tr) (k : Nat) : t.get (k + 1) = bif Nat.beq (k % 2) 0 then t.left.get (k / 2) else t.right.get (k / 2) := by
  cases t with
  | nil => simp only [Tr.left, Tr.right, Tr.get_nil]; cases Nat.beq (k % 2) 0 <;> rfl
  | node o l r => rfl

theorem beq_even : Nat.beq 0 0 = true := rfl
theorem beq_odd : Nat.beq 1 0 = false := rfl

theorem Tr.get_setF (f : Nat) : ∀ (t : Tr) (n : Nat) (o : Option AObj) (m : Nat), n < f → (Tr.setF f t n o).get m = if m = n then o else t.get m := by
  induction f with
  | zero => intro t n o m h; omega
  | succ f ih =>
    intro t n o m h
    cases n with
    | zero =>
      cases m with
      | zero => simp [Tr.setF, Tr.get]
      | succ m => rw [if_neg (by omega), Tr.get_succ t]; simp only [Tr.setF, Tr.get]
    | succ k =>
      have hk : k / 2 < f := by omega
      cases m with
      | zero =>
        rw [if_neg (by omega), Tr.get_zero t]
        simp only [Tr.setF]
        cases Nat.beq (k % 2) 0 <;> rfl
      | succ m =>
        rw [Tr.get_succ t m]
        simp only [Tr.setF]
        rcases Nat.mod_two_eq_zero_or_one k with e | e <;> rcases Nat.mod_two_eq_zero_or_one m with e' | e' <;>
          simp only [e, beq_even, beq_odd, cond_true, cond_false, Tr.get] <;> simp only [e', beq_even, beq_odd, cond_true, cond_false, ih _ _ _ _ hk]
        · by_cases hm : m = k
          · subst hm; rw [if_pos rfl, if_pos rfl]
          · rw [if_neg (by omega), if_neg (by omega)]
        · rw [if_neg (by omega)]
        · rw [if_neg (by omega)]
        · by_cases hm : m = k
          · subst hm; rw [if_pos rfl, if_pos rfl]
          · rw [if_neg (by omega), if_neg (by omega)]

theorem Tr.get_set (t : Tr) (n : Nat) (o : Option AObj) (m : Nat) : (t.set n o).get m = if m = n then o else t.get m := Tr.get_setF _ _ _ _ _ (by omega)

structure AHeap where
  t : Tr
  next : Nat

/-! ### Names and places -/
structure Loc where
  blk : Nat
  base : Nat
  av : Nat

abbrev Emb := Nat → Option Loc
def Emb.le (a b : Emb) : Prop := ∀ i l, a i = some l → b i = some l
theorem Emb.le_refl (a : Emb) : a.le a := fun _ _ h => h
theorem Emb.le_trans {a b c : Emb} (h : a.le b) (k : b.le c) : a.le c := fun i l e => k i l (h i l e)

/-- One name more. -/
def Emb.add (e : Emb) (i : Nat) (l : Loc) : Emb := fun j => if j = i then some l else e j
theorem Emb.le_add {e : Emb} {i : Nat} (l : Loc) (h : e i = none) : e.le (e.add i l) := by
  intro j l' hj
  unfold Emb.add
  split
  · subst_vars; rw [h] at hj; cases hj
  · exact hj
theorem Emb.add_self (e : Emb) (i : Nat) (l : Loc) : e.add i l i = some l := by simp [Emb.add]

inductive FnRel (e : Emb) : Fn → Fn → Prop where
  | func (f : FuncId) : FnRel e (.func f) (.func f)
  | yield {i : Nat} {l : Loc} (h : e i = some l) : FnRel e (.yield i) (.yield l.blk)

def poison : Value := .complex .f32 0 0
/-- An empty slice of which no more is known. -/
def emptyMark : Addr := ⟨0, 0, some 0⟩

inductive VRel (e : Emb) : Value → Value → Prop where
  | poison (v : Value) : VRel e (.complex .f32 0 0) v
  | bool (b : Bool) : VRel e (.bool b) (.bool b)
  | int (k : IntKind) (n : Int) : VRel e (.int k n) (.int k n)
  | string (s : ByteArray) : VRel e (.string s) (.string s)
  | nilPtr : VRel e (.pointer none) (.pointer none)
  | nilSlice : VRel e (.slice none 0 0) (.slice none 0 0)
  | nilMap : VRel e (.map none) (.map none)
  | nilFunc : VRel e .nilFunc .nilFunc
  | nilIface : VRel e .nilIface .nilIface
  | ptr {i off : Nat} {l : Loc} (h : e i = some l) : VRel e (.pointer (some ⟨i, off, none⟩)) (.pointer (some ⟨l.blk, l.base + off, none⟩))
  | slice {i off len E cap : Nat} {l : Loc} (h : e i = some l) (hE : 0 < E) (hlen : len ≤ cap) (hav : off + cap * E = l.av) :
      VRel e (.slice (some ⟨i, off, none⟩) len E) (.slice (some ⟨l.blk, l.base + off, none⟩) len cap)
  | empty (a : Addr) (cap : Nat) : VRel e (.slice (some ⟨0, 0, some 0⟩) 0 0) (.slice (some a) 0 cap)
  | map {i : Nat} {l : Loc} (h : e i = some l) : VRel e (.map (some i)) (.map (some l.blk))
  | func {fn fn' : Fn} {a a' c c' : Array Value} (hf : FnRel e fn fn') (ha : a.size = a'.size) (hai : ∀ (i : Nat) (v v' : Value), a[i]? = some v → a'[i]? = some v' → VRel e v v')
      (hc : c.size = c'.size) (hci : ∀ (i : Nat) (v v' : Value), c[i]? = some v → c'[i]? = some v' → VRel e v v') : VRel e (.func fn a c) (.func fn' a' c')
  | iface (t : TypeId) {v v' : Value} (h : VRel e v v') : VRel e (.iface t v) (.iface t v')
  | agg {a a' : Array Value} (ha : a.size = a'.size) (hai : ∀ (i : Nat) (v v' : Value), a[i]? = some v → a'[i]? = some v' → VRel e v v') : VRel e (.agg a) (.agg a')
  | tuple {a a' : Array Value} (ha : a.size = a'.size) (hai : ∀ (i : Nat) (v v' : Value), a[i]? = some v → a'[i]? = some v' → VRel e v v') : VRel e (.tuple a) (.tuple a')

theorem FnRel.mono {e e' : Emb} (h : e.le e') {f f' : Fn} (r : FnRel e f f') : FnRel e' f f' := by
  cases r with
  | func f => exact .func f
  | yield hi => exact .yield (h _ _ hi)

theorem VRel.mono {e e' : Emb} (h : e.le e') {v v' : Value} (r : VRel e v v') : VRel e' v v' := by
  induction r with
  | poison v => exact .poison v
  | bool b => exact .bool b
  | int k n => exact .int k n
  | string s => exact .string s
  | nilPtr => exact .nilPtr
  | nilSlice => exact .nilSlice
  | nilMap => exact .nilMap
  | nilFunc => exact .nilFunc
  | nilIface => exact .nilIface
  | ptr hi => exact .ptr (h _ _ hi)
  | slice hi hE hl hav => exact .slice (h _ _ hi) hE hl hav
  | empty a c => exact .empty a c
  | map hi => exact .map (h _ _ hi)
  | func hf ha _ hc _ iha ihc => exact .func (hf.mono h) ha iha hc ihc
  | iface t _ ih => exact .iface t ih
  | agg ha _ ih => exact .agg ha ih
  | tuple ha _ ih => exact .tuple ha ih

/-- Lists of values, one by one. -/
def LRel (e : Emb) (a b : List Value) : Prop := a.length = b.length ∧ ∀ (i : Nat) (v v' : Value), a[i]? = some v → b[i]? = some v' → VRel e v v'
/-- Likewise of arrays. -/
def ARel (e : Emb) (a b : Array Value) : Prop := a.size = b.size ∧ ∀ (i : Nat) (v v' : Value), a[i]? = some v → b[i]? = some v' → VRel e v v'
/-- A list of values, and an array. -/
def TRel (e : Emb) (a : List Value) (b : Array Value) : Prop := a.length = b.size ∧ ∀ (i : Nat) (v v' : Value), a[i]? = some v → b[i]? = some v' → VRel e v v'

theorem LRel.mono {e e' : Emb} (h : e.le e') {a b : List Value} (r : LRel e a b) : LRel e' a b := ⟨r.1, fun i v v' x y => (r.2 i v v' x y).mono h⟩
theorem ARel.mono {e e' : Emb} (h : e.le e') {a b : Array Value} (r : ARel e a b) : ARel e' a b := ⟨r.1, fun i v v' x y => (r.2 i v v' x y).mono h⟩
theorem TRel.mono {e e' : Emb} (h : e.le e') {a : List Value} {b : Array Value} (r : TRel e a b) : TRel e' a b := ⟨r.1, fun i v v' x y => (r.2 i v v' x y).mono h⟩

theorem TRel.get {e : Emb} {a : List Value} {b : Array Value} (r : TRel e a b) {i : Nat} {v : Value} (h : a[i]? = some v) : ∃ v', b[i]? = some v' ∧ VRel e v v' := by
  have hi : i < a.length := (List.getElem?_eq_some_iff.1 h).1
  have hb : i < b.size := r.1 ▸ hi
  exact ⟨b[i], by simp [hb], r.2 i v b[i] h (by simp [hb])⟩
theorem ARel.get {e : Emb} {a b : Array Value} (r : ARel e a b) {i : Nat} {v : Value} (h : a[i]? = some v) : ∃ v', b[i]? = some v' ∧ VRel e v v' := by
  have hi : i < a.size := (Array.getElem?_eq_some_iff.1 h).1
  have hb : i < b.size := r.1 ▸ hi
  exact ⟨b[i], by simp [hb], r.2 i v b[i] h (by simp [hb])⟩
theorem ARel.toT {e : Emb} {a b : Array Value} (r : ARel e a b) : TRel e a.toList b := ⟨by simpa using r.1, fun i v v' x y => r.2 i v v' (by simpa using x) y⟩
theorem ARel.toL {e : Emb} {a b : Array Value} (r : ARel e a b) : LRel e a.toList b.toList := ⟨by simpa using r.1, fun i v v' x y => r.2 i v v' (by simpa using x) (by simpa using y)⟩
theorem TRel.toL {e : Emb} {a : List Value} {b : Array Value} (r : TRel e a b) : LRel e a b.toList := ⟨by simpa using r.1, fun i v v' x y => r.2 i v v' x (by simpa using y)⟩
theorem LRel.toT {e : Emb} {a b : List Value} (r : LRel e a b) : TRel e a b.toArray := ⟨by simpa using r.1, fun i v v' x y => r.2 i v v' x (by simpa using y)⟩
theorem LRel.toA {e : Emb} {a b : List Value} (r : LRel e a b) : ARel e a.toArray b.toArray := ⟨by simpa using r.1, fun i v v' x y => r.2 i v v' (by simpa using x) (by simpa using y)⟩
theorem TRel.toA {e : Emb} {a : List Value} {b : Array Value} (r : TRel e a b) : ARel e a.toArray b := ⟨by simpa using r.1, fun i v v' x y => r.2 i v v' (by simpa using x) y⟩

/-- Temporaries, each with each. -/
def TmRel (e : Emb) (a : Tm) (b : Array Value) : Prop := ∀ i, match a.get i with
  | none => b[i]? = none
  | some v => ∃ v', b[i]? = some v' ∧ VRel e v v'

theorem TmRel.get {e : Emb} {a : Tm} {b : Array Value} (r : TmRel e a b) {i : Nat} {v : Value} (h : a.get i = some v) : ∃ v', b[i]? = some v' ∧ VRel e v v' := by
  have := r i
  rw [h] at this
  exact this
theorem TmRel.none {e : Emb} {a : Tm} {b : Array Value} (r : TmRel e a b) {i : Nat} (h : a.get i = none) : b[i]? = none := by
  have := r i
  rw [h] at this
  exact this
theorem TmRel.mono {e e' : Emb} (h : e.le e') {a : Tm} {b : Array Value} (r : TmRel e a b) : TmRel e' a b := by
  intro i
  have := r i
  split at this
  · exact this
  · obtain ⟨v', h1, h2⟩ := this; exact ⟨v', h1, h2.mono h⟩
theorem TmRel.put {e : Emb} {a : Tm} {b : Array Value} (r : TmRel e a b) (d : Nat) {v v' : Value} (h : VRel e v v') : TmRel e (a.put d v) (b.setIfInBounds d v') := by
  intro i
  rw [Bt.get_put]
  by_cases hi : i = d
  · subst hi
    rw [if_pos rfl]
    cases hg : a.get i with
    | none => simpa using r.none hg
    | some u =>
      obtain ⟨u', h1, _⟩ := r.get hg
      have hlt : i < b.size := (Array.getElem?_eq_some_iff.1 h1).1
      exact ⟨v', by simp [hlt], h⟩
  · rw [if_neg hi]
    have := r i
    rw [Array.getElem?_setIfInBounds_ne (Ne.symm hi)]
    exact this

theorem LRel.nil (e : Emb) : LRel e [] [] := ⟨rfl, fun i v v' x _ => by simp at x⟩
theorem LRel.cons {e : Emb} {v v' : Value} {a b : List Value} (h : VRel e v v') (r : LRel e a b) : LRel e (v :: a) (v' :: b) := by
  refine ⟨by simp [r.1], fun i u u' x y => ?_⟩
  cases i with
  | zero => simp at x y; subst x y; exact h
  | succ i => exact r.2 i u u' (by simpa using x) (by simpa using y)
theorem LRel.uncons {e : Emb} {v : Value} {a b : List Value} (r : LRel e (v :: a) b) : ∃ v' b', b = v' :: b' ∧ VRel e v v' ∧ LRel e a b' := by
  cases b with
  | nil => have := r.1; simp at this
  | cons v' b' => exact ⟨v', b', rfl, r.2 0 v v' rfl rfl, by have := r.1; simpa using this, fun i u u' x y => r.2 (i + 1) u u' (by simpa using x) (by simpa using y)⟩
theorem LRel.nil_inv {e : Emb} {b : List Value} (r : LRel e [] b) : b = [] := by have := r.1; cases b <;> simp_all
theorem LRel.append {e : Emb} {a b c d : List Value} (r : LRel e a b) (s : LRel e c d) : LRel e (a ++ c) (b ++ d) := by
  induction a generalizing b with
  | nil => rw [r.nil_inv]; exact s
  | cons v a ih => obtain ⟨v', b', rfl, hv, hr⟩ := r.uncons; exact .cons hv (ih hr)
theorem LRel.take {e : Emb} {a b : List Value} (n : Nat) (r : LRel e a b) : LRel e (a.take n) (b.take n) := by
  refine ⟨by simp [r.1], fun i v v' x y => ?_⟩
  rw [List.getElem?_take] at x y
  split at x
  · rename_i hi; rw [if_pos hi] at y; exact r.2 i v v' x y
  · cases x
theorem LRel.drop {e : Emb} {a b : List Value} (n : Nat) (r : LRel e a b) : LRel e (a.drop n) (b.drop n) := by
  refine ⟨by simp [r.1], fun i v v' x y => ?_⟩
  rw [List.getElem?_drop] at x y
  exact r.2 _ v v' x y
theorem LRel.set {e : Emb} {a b : List Value} {v v' : Value} (n : Nat) (r : LRel e a b) (h : VRel e v v') : LRel e (a.set n v) (b.set n v') := by
  refine ⟨by simp [r.1], fun i u u' x y => ?_⟩
  rw [List.getElem?_set] at x y
  split at x
  · rename_i hn
    rw [if_pos hn] at y
    split at x
    · rename_i hl; rw [if_pos (r.1 ▸ hl)] at y; cases x; cases y; exact h
    · cases x
  · rename_i hn
    rw [if_neg hn] at y
    exact r.2 i u u' x y
theorem LRel.replicate {e : Emb} {v v' : Value} (n : Nat) (h : VRel e v v') : LRel e (List.replicate n v) (List.replicate n v') := by
  refine ⟨by simp, fun i u u' x y => ?_⟩
  rw [List.getElem?_replicate] at x y
  split at x
  · rename_i hn; rw [if_pos hn] at y; cases x; cases y; exact h
  · cases x

/-- Values that bear no names are themselves. -/
def plainB : Nat → Value → Bool
  | _, .bool _ | _, .int _ _ | _, .string _ | _, .pointer none | _, .slice none 0 0 | _, .map none | _, .nilFunc | _, .nilIface => true
  | n + 1, .agg a | n + 1, .tuple a => a.toList.all (plainB n)
  | n + 1, .iface _ v => plainB n v
  | _, _ => false

theorem plainB_rel (n : Nat) : ∀ (v : Value) (e : Emb), plainB n v = true → VRel e v v := by
  induction n with
  | zero =>
    intro v e h
    unfold plainB at h
    split at h <;> first
      | exact .bool _ | exact .int _ _ | exact .string _ | exact .nilPtr | exact .nilSlice | exact .nilMap | exact .nilFunc | exact .nilIface
      | simp_all
  | succ n ih =>
    have arr : ∀ (a : Array Value) (e : Emb), a.toList.all (plainB n) = true → ∀ (i : Nat) (v v' : Value), a[i]? = some v → a[i]? = some v' → VRel e v v' := by
      intro a e h i v v' x y
      rw [x] at y; cases y
      refine ih v e ?_
      rw [List.all_eq_true] at h
      exact h v (by simpa using Array.mem_of_getElem? x)
    intro v e h
    unfold plainB at h
    split at h <;> first
      | exact .bool _ | exact .int _ _ | exact .string _ | exact .nilPtr | exact .nilSlice | exact .nilMap | exact .nilFunc | exact .nilIface
      | (rename_i heq; cases heq; exact .agg rfl (arr _ e h))
      | (rename_i heq; cases heq; exact .tuple rfl (arr _ e h))
      | (rename_i heq; cases heq; exact .iface _ (ih _ e h))
      | simp_all

end Go.WeftN
