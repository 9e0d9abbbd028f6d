/- The evaluator's steps; what it is worth. -/
import Derived.Test.YtnlacfnniflkdaaGreatDoorNP
namespace Go.WeftN

noncomputable section

def rangeRun (T : Tab) (ec : EC) (fi : FI) (f : Operand) (ps : Array Tmp) (assign body : Code) (a : AAct) (H : AHeap) : Option (List Res) :=
  match aev T.E a.tm f with
  | .func (.func g) first cap => match T.orc g, T.ext g with
    | none, none =>
      let go (L : Nat) (a0 : AAct) (H0 : AHeap) : Option (List Res) :=
        match ec (.call g (first.toList ++ [.func (.yield L) #[] #[]] ++ cap.toList) false none) H0 with
        | none => none
        | some rs => bindL rs fun
          | .call (.ret _) _ H1 => match H1.t.get L with
            | some (.loop R) => match R.state with
              | .busy => none
              | _ =>
                let H2 : AHeap := ⟨H1.t.set L (some (.loop { R with state := .exhausted })), H1.next⟩
                match R.pending with
                | none => some [.code .normal a0 H2]
                | some c => ec (.code fi c a0) H2
            | _ => none
          | .call (.pan ch) _ H1 => some [.code (.panic ch) a0 H1]
          | _ => none
      match T.fn g with
      | none => none
      | some F => bif F.body.isSome then match fi.round with
      | none => go (H.next + 1) { a with defers := .mark H.next :: a.defers }
          ⟨(H.t.set H.next (some .nodefers)).set (H.next + 1) (some (.loop ⟨.ready, none, fi.fn, a.tm, ps, assign, body, H.next⟩)), H.next + 2⟩
      | some l0 => match H.t.get l0 with
        | some (.loop L0) => go H.next a ⟨H.t.set H.next (some (.loop ⟨.ready, none, fi.fn, a.tm, ps, assign, body, L0.defers⟩)), H.next + 1⟩
        | _ => none
      else none
    | _, _ => none
  | _ => none

abbrev Draw := EC → FI → Array Oper → AAct → AHeap → Option (List Res)

def stepCode (T : Tab) (dr : Draw) (ec : EC) (fi : FI) (c : Code) (a : AAct) (H : AHeap) : Option (List Res) :=
  match c with
  | .skip => some [.code .normal a H]
  | .label _ => some [.code .normal a H]
  | .seq x y => match ec (.code fi x a) H with
    | none => none
    | some rs => bindL rs fun
      | .code .normal a1 H1 => ec (.code fi y a1) H1
      | r => some [r]
  | .cond c x y => match aev T.E a.tm c with
    | .bool true => ec (.code fi x a) H
    | .bool false => ec (.code fi y a) H
    | _ => none
  | .block id x => match ec (.code fi x a) H with
    | none => none
    | some rs => bindL rs fun
      | .code (.exit j) a1 H1 => some [.code (bif Nat.beq j id then .normal else .exit j) a1 H1]
      | r => some [r]
  | .loop x => match ec (.code fi x a) H with
    | none => none
    | some rs => bindL rs fun
      | .code .normal a1 H1 => ec (.code fi (.loop x) a1) H1
      | r => some [r]
  | .scope x => scopeRun ec fi x 1000 x a H
  | .exit id => some [.code (.exit id) a H]
  | .goto l => some [.code (.goto l) a H]
  | .ret => some [.code .ret a H]
  | .region _ ops draw => bif draw then dr ec fi ops a H else seqOps T ec fi ops ops.toList a H
  | .rangeFunc f ps assign body => rangeRun T ec fi f ps assign body a H
  | .refuse _ => none

/-- Temporaries of a call: its arguments first. -/
def putArgs : List Value → Nat → Tm → Tm
  | [], _, t => t
  | v :: vs, i, t => putArgs vs (i + 1) (t.put i v)
def enterTm (n : Nat) (args : List Value) : Tm := putArgs args 0 (Bt.full undef n n)

def stepCall (T : Tab) (ec : EC) (f : FuncId) (args : List Value) (dfr : Bool) (up : Option Chain) (H : AHeap) : Option (List Res) :=
  match T.fn f with
  | none => none
  | some F => match F.body with
    | none => none
    | some body => bif Nat.ble args.length F.ntmps then match ec (.code ⟨f, none, dfr⟩ body ⟨enterTm F.ntmps args, [], up⟩) H with
      | none => none
      | some rs => bindL rs fun
        | .code .normal a1 H1 => leave T ec F a1.tm a1.up a1.defers none H1
        | .code .ret a1 H1 => leave T ec F a1.tm a1.up a1.defers none H1
        | .code (.panic ch) a1 H1 => leave T ec F a1.tm a1.up a1.defers (some ch) H1
        | _ => none
      else none

def stepR (T : Tab) (dr : Draw) (ec : EC) : EC := fun r H =>
  match r with
  | .code fi c a => stepCode T dr ec fi c a H
  | .call f args dfr up => stepCall T ec f args dfr up H

def ev (T : Tab) (dr : Draw) : Nat → EC := Nat.rec (fun _ _ => none) (fun _ ih => stepR T dr ih)

end

/-! ### What it is worth -/
/-- Panics' entries, one by one. -/
def ChRel (e : Emb) (a : Chain) (b : List PanicEntry) : Prop := a.length = b.length ∧ ∀ (i : Nat) (x : PEnt) (y : PanicEntry), a[i]? = some x → b[i]? = some y → VRel e x.v y.v ∧ x.recovered = y.recovered ∧ y.goexit = false

def UpRel (d : Bool) (e : Emb) (up : Option Chain) (m : FrameMode) : Prop :=
  d = true → match up with
    | none => m = .returning
    | some ch => ∃ ch', m = .panicking ch' ∧ ChRel e ch ch'

def DRel1 (e : Emb) : ADef → Deferred → Prop
  | .fn f args, d => ∃ fn first cap fn' first' cap' args', f = .func fn first cap ∧ FnRel e fn fn' ∧ ARel e first first' ∧ ARel e cap cap' ∧ LRel e args args' ∧ d = { target := .fn fn' cap', args := first' ++ args'.toArray }
  | .mark id, d => ∃ l, e id = some l ∧ d = { target := .collected l.blk, args := #[] }

def DRel (e : Emb) (a : List ADef) (b : List Deferred) : Prop := a.length = b.length ∧ ∀ (i : Nat) (x : ADef) (y : Deferred), a[i]? = some x → b[i]? = some y → DRel1 e x y

def ActRel (e : Emb) (a : AAct) (ca : Act) : Prop := TmRel e a.tm ca.tmps ∧ DRel e a.defers ca.defers

def withMode (d : Bool) (cs : List Frame) (m : FrameMode) : List Frame :=
  match d, cs with
  | true, c :: rest => { c with mode := m } :: rest
  | _, cs => cs

structure FiRel (e : Emb) (fi : FI) (b : Frame) : Prop where
  fn : b.fn = fi.fn
  kind : b.kind = if fi.dfr then .deferred else .normal
  round : MRel e fi.round b.roundOf
  nr : fi.dfr = true → fi.round = none

/-- Where a piece of code leaves a frame. -/
def Ends (P : Program) (e : Emb) (m0 : Machine) (b : Frame) (k : List Item) (cs : List Frame) (ca : Act) (w : World) : Ex → Prop
  | .normal => Steps P m0 (lone (b.atR ca k) cs w)
  | .exit id => ∃ k', Steps P m0 (lone (b.atR ca (.code (.exit id) :: k')) cs w) ∧ exitTo id k' = exitTo id k
  | .goto l => ∃ k', Steps P m0 (lone (b.atR ca (.code (.goto l) :: k')) cs w) ∧ gotoIn l k' = gotoIn l k
  | .ret => ∃ k', Steps P m0 (lone (b.atR ca (.code .ret :: k')) cs w)
  | .panic ch => ∃ k' ch', ChRel e ch ch' ∧ Steps P m0 (lone { b.atR ca k' with mode := .panicking ch' } cs w)

/-- What lies in tables at all times. -/
structure Base (T : Tab) (R : Nat → Option (List Value)) (e : Emb) (H : AHeap) : Prop where
  glob : ∀ g, T.E.glob g = true → ∃ av, e g = some ⟨g, 0, av⟩
  rom : ∀ i cs, R i = some cs → H.t.get i = some (.rom cs)

theorem Base.out {T : Tab} {R : Nat → Option (List Value)} {e e' : Emb} {H H' : AHeap} {w w' : World} (b : Base T R e H) (o : Out e H w e' H' w') : Base T R e' H' where
  glob := fun g hg => let ⟨av, h⟩ := b.glob g hg; ⟨av, o.le _ _ h⟩
  rom := fun i cs h => o.rom i cs (b.rom i cs h)

/-- A request is met. -/
def Met (P : Program) (T : Tab) (R : Nat → Option (List Value)) (r : Req) (H : AHeap) (rs : List Res) : Prop :=
  match r with
  | .code fi c a => ∀ (e : Emb) (w : World) (b : Frame) (k : List Item) (cs : List Frame) (m : FrameMode) (ca : Act),
      Rep e H w → Base T R e H → FiRel e fi b → ActRel e a ca → UpRel fi.dfr e a.up m → (fi.dfr = true → cs ≠ []) →
      ∃ x a' H', .code x a' H' ∈ rs ∧ ∃ e' w' ca' m', Out e H w e' H' w' ∧ ActRel e' a' ca' ∧ UpRel fi.dfr e' a'.up m' ∧
        Ends P e' (lone (b.atR ca (.code c :: k)) (withMode fi.dfr cs m) w) b k (withMode fi.dfr cs m') ca' w' x
  | .call f args dfr up => ∀ (e : Emb) (w : World) (cs : List Frame) (m : FrameMode) (args' : List Value),
      Rep e H w → Base T R e H → LRel e args args' → UpRel dfr e up m → (dfr = true → cs ≠ []) →
      ∃ o up' H', .call o up' H' ∈ rs ∧ ∃ e' w' m' fr en, Out e H w e' H' w' ∧ UpRel dfr e' up' m' ∧
        Steps P (lone (Frame.enter P f args'.toArray (if dfr then .deferred else .normal)) (withMode dfr cs m) w) (lone fr (withMode dfr cs m') w') ∧
        fr.fn = f ∧ fr.kind = (if dfr then .deferred else .normal) ∧ fr.going P w' en ∧
        (match o with
          | .ret v => ∃ v', en = .returned v' ∧ VRel e' v v'
          | .pan ch => ∃ ch', en = .panicked ch' ∧ ChRel e' ch ch')

def Meets (P : Program) (T : Tab) (R : Nat → Option (List Value)) (ec : EC) : Prop := ∀ r H rs, ec r H = some rs → Met P T R r H rs

structure TabOk (P : Program) (T : Tab) (R : Nat → Option (List Value)) : Prop where
  env : EnvOk P T.E
  fn : ∀ f F, T.fn f = some F → P.funcs[f]? = some F ∧ (F.name == "runtime.NumGoroutine") = false
  mixed : P.follows .mixedOrders = true
  ext : ∀ f g args x, T.ext f = some g → g args = some x → ∀ (e : Emb) (args' : List Value), LRel e args args' → EffOk P e (callFunc f args'.toArray) x
  orc : ∀ f g args m, T.orc f = some g → g args = some m → ∀ (e : Emb) (H : AHeap) (w : World) (args' : List Value), Rep e H w → Base T R e H → LRel e args args' →
    (∀ w0, (callFunc f args'.toArray).run P w0 = .ok (.enter f args'.toArray) w0) ∧
      Calls P f args'.toArray w fun en w' => ∃ v' e', en = .returned v' ∧ Out e H w e' ⟨H.t.set H.next (some m.obj), H.next + 1⟩ w' ∧ VRel e' (m.val H.next) v'

theorem ActRel.mono {e e' : Emb} (h : e.le e') {a : AAct} {ca : Act} (r : ActRel e a ca) : ActRel e' a ca := by
  refine ⟨r.1.mono h, r.2.1, fun i x y hx hy => ?_⟩
  have := r.2.2 i x y hx hy
  cases x with
  | fn f args =>
    obtain ⟨fn, first, cap, fn', first', cap', args', h0, h1, h2, h3, h4, h5⟩ := this
    exact ⟨fn, first, cap, fn', first', cap', args', h0, h1.mono h, h2.mono h, h3.mono h, h4.mono h, h5⟩
  | mark id =>
    obtain ⟨l, h1, h2⟩ := this
    exact ⟨l, h _ _ h1, h2⟩

theorem ChRel.mono {e e' : Emb} (h : e.le e') {a : Chain} {b : List PanicEntry} (r : ChRel e a b) : ChRel e' a b := ⟨r.1, fun i x y hx hy => let ⟨a, b⟩ := r.2 i x y hx hy; ⟨a.mono h, b⟩⟩

theorem UpRel.mono {d : Bool} {e e' : Emb} (h : e.le e') {up : Option Chain} {m : FrameMode} (r : UpRel d e up m) : UpRel d e' up m := by
  intro hd
  have := r hd
  cases up with
  | none => exact this
  | some ch => obtain ⟨ch', a, b⟩ := this; exact ⟨ch', a, b.mono h⟩

theorem FiRel.mono {e e' : Emb} (h : e.le e') {fi : FI} {b : Frame} (r : FiRel e fi b) : FiRel e' fi b := ⟨r.fn, r.kind, r.round.mono h, r.nr⟩

theorem Ends.of_steps {P : Program} {e : Emb} {m0 m1 : Machine} {b : Frame} {k : List Item} {cs : List Frame} {ca : Act} {w : World} {x : Ex} (h : Steps P m0 m1) (h' : Ends P e m1 b k cs ca w x) : Ends P e m0 b k cs ca w x := by
  cases x with
  | normal => exact h.trans h'
  | exit id => obtain ⟨k', a, c⟩ := h'; exact ⟨k', h.trans a, c⟩
  | goto l => obtain ⟨k', a, c⟩ := h'; exact ⟨k', h.trans a, c⟩
  | ret => obtain ⟨k', a⟩ := h'; exact ⟨k', h.trans a⟩
  | panic ch => obtain ⟨k', ch', a, c⟩ := h'; exact ⟨k', ch', a, h.trans c⟩

/-- A plain item more behind: only an end without a jump comes to it. -/
theorem Ends.pass {P : Program} {e : Emb} {m0 : Machine} {b : Frame} {it : Item} {k : List Item} {cs : List Frame} {ca : Act} {w : World} {x : Ex} (hx : x ≠ .normal) (he : ∀ id, exitTo id (it :: k) = exitTo id k) (hg : ∀ l, gotoIn l (it :: k) = gotoIn l k)
    (h : Ends P e m0 b (it :: k) cs ca w x) : Ends P e m0 b k cs ca w x := by
  cases x with
  | normal => exact absurd rfl hx
  | exit id => obtain ⟨k', a, c⟩ := h; exact ⟨k', a, c.trans (he id)⟩
  | goto l => obtain ⟨k', a, c⟩ := h; exact ⟨k', a, c.trans (hg l)⟩
  | ret => exact h
  | panic ch => exact h

end Go.WeftN
