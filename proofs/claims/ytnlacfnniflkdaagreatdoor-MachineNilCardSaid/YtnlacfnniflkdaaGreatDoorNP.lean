/- The evaluator: code, calls, loops over functions, deferred calls and panics. -/
import Derived.Test.YtnlacfnniflkdaaGreatDoorNO
import Derived.AtR
import Derived.Defers
namespace Go.WeftN

noncomputable section

structure PEnt where
  v : Value
  recovered : Bool

abbrev Chain := List PEnt

inductive ADef where
  | fn (f : Value) (args : List Value)
  | mark (id : Nat)

structure AAct where
  tm : Tm
  defers : List ADef
  up : Option Chain

/-- A frame: its function, the round that it is of, whether it is a deferred call's. -/
structure FI where
  fn : FuncId
  round : Option Nat
  dfr : Bool

inductive Ex where
  | normal
  | exit (id : Nat)
  | goto (l : Nat)
  | ret
  | panic (ch : Chain)

inductive Req where
  | code (fi : FI) (c : Code) (a : AAct)
  | call (f : FuncId) (args : List Value) (dfr : Bool) (up : Option Chain)

inductive Outc where
  | ret (v : Value)
  | pan (ch : Chain)

inductive Res where
  | code (x : Ex) (a : AAct) (H : AHeap)
  | call (o : Outc) (up : Option Chain) (H : AHeap)

abbrev EC := Req → AHeap → Option (List Res)

/-- What the evaluator knows of a program: its types, its functions; functions whose answers are known otherwise: library functions without a text, and functions that are proved to make one object. -/
structure Tab where
  E : Env
  fn : FuncId → Option Func
  ext : FuncId → Option (List Value → Option Eff)
  orc : FuncId → Option (List Value → Option Mk)

def bindL {α β : Type} (xs : List α) (f : α → Option (List β)) : Option (List β) :=
  List.rec (some []) (fun x rest ih => Option.rec none (fun ys => List.rec (some ys) (fun _ _ _ => Option.rec none (fun zs => some (ys ++ zs)) ih) rest) (f x)) xs

theorem bindL_cons {α β : Type} (x : α) (rest : List α) (f : α → Option (List β)) : bindL (x :: rest) f = match f x with
    | none => none
    | some ys => match rest with
      | [] => some ys
      | _ :: _ => match bindL rest f with
        | none => none
        | some zs => some (ys ++ zs) := by
  show (Option.rec none (fun ys => List.rec (some ys) (fun _ _ _ => Option.rec none (fun zs => some (ys ++ zs)) (bindL rest f)) rest) (f x) : Option (List β)) = _
  cases f x with
  | none => rfl
  | some ys =>
    cases rest with
    | nil => rfl
    | cons r rs =>
      show (Option.rec none (fun zs => some (ys ++ zs)) (bindL (r :: rs) f) : Option (List β)) = _
      simp only
      cases bindL (r :: rs) f <;> rfl

theorem bindL_mem {α β : Type} {f : α → Option (List β)} : ∀ {xs : List α} {ys : List β} {x : α}, bindL xs f = some ys → x ∈ xs → ∃ zs, f x = some zs ∧ ∀ z ∈ zs, z ∈ ys
  | x :: rest, ys, y, h, hy => by
    rw [bindL_cons] at h
    cases hx : f x with
    | none => rw [hx] at h; cases h
    | some zs =>
      rw [hx] at h
      simp only at h
      cases rest with
      | nil =>
        simp only at h; cases h
        obtain rfl : y = x := by simpa using hy
        exact ⟨_, hx, fun z hz => hz⟩
      | cons r rs =>
        simp only at h
        cases hr : bindL (r :: rs) f with
        | none => rw [hr] at h; cases h
        | some us =>
          rw [hr] at h
          simp only at h; cases h
          rcases List.mem_cons.1 hy with rfl | hy2
          · exact ⟨zs, hx, fun z hz => List.mem_append_left _ hz⟩
          · obtain ⟨vs, h1, h2⟩ := bindL_mem hr hy2
            exact ⟨vs, h1, fun z hz => List.mem_append_right _ (h2 z hz)⟩

/-- An operand's value. -/
def aev (E : Env) (tm : Tm) (x : Operand) : Value :=
  Operand.rec (fun t => Option.rec undef (fun v => v) (tm.get t)) (fun v => Bool.rec poison v (plainB 1 v)) (fun g => Bool.rec poison (.pointer (some ⟨g, 0, none⟩)) (E.glob g)) (fun f => .func (.func f) #[] #[]) x

def putT (tm : Tm) (d : Option Tmp) (v : Value) : Tm := Option.rec tm (fun t => tm.put t v) d

def AAct.put (a : AAct) (d : Option Tmp) (v : Value) : AAct := { a with tm := putT a.tm d v }

inductive OpRes where
  | next (a : AAct) (H : AHeap)
  | panic (ch : Chain) (a : AAct) (H : AHeap)

/-- Values of a loop's variables in a round. -/
def roundTm (tm : Tm) (ps : List Tmp) (args : List Value) : Tm := (ps.zip args).foldl (fun t (x : Tmp × Value) => t.put x.1 x.2) tm

def callRes (ec : EC) (f : FuncId) (args : List Value) (H : AHeap) (k : Value → AHeap → OpRes) (kp : Chain → AHeap → OpRes) : Option (List OpRes) :=
  match ec (.call f args false none) H with
  | none => none
  | some rs => bindL rs fun
    | .call (.ret v) _ H1 => some [k v H1]
    | .call (.pan ch) _ H1 => some [kp ch H1]
    | _ => none

def yieldRes (T : Tab) (ec : EC) (l : Nat) (args : List Value) (H : AHeap) (k : Value → AHeap → OpRes) (kp : Chain → AHeap → OpRes) : Option (List OpRes) :=
  match H.t.get l with
  | some (.loop L) =>
    bif Nat.beq args.length L.params.toList.length && (T.fn L.fn).isSome then
      match ec (.code ⟨L.fn, some l, false⟩ L.assign ⟨roundTm L.tm L.params.toList args, [], none⟩) H with
      | none => none
      | some rs => bindL rs fun
        | .code .normal a1 H1 => match a1.defers, H1.t.get l with
          | [], some (.loop L1) => match L1.state with
            | .ready => match ec (.code ⟨L.fn, some l, false⟩ L.body a1) ⟨H1.t.set l (some (.loop { L1 with state := .busy })), H1.next⟩ with
              | none => none
              | some rs2 => bindL rs2 fun
                | .code x a2 H2 => match a2.defers, H2.t.get l with
                  | [], some (.loop L2) =>
                    let fin (j : Option Code) : OpRes := k (.bool j.isNone) ⟨H2.t.set l (some (.loop { L2 with state := if j.isNone then .ready else .done, pending := j })), H2.next⟩
                    match x with
                    | .normal => some [fin none]
                    | .ret => some [fin (some .ret)]
                    | .exit id => some [fin (some (.exit id))]
                    | .goto t => some [fin (some (.goto t))]
                    | .panic ch => some [kp ch H2]
                  | _, _ => none
                | _ => none
            | _ => none
          | _, _ => none
        | _ => none
    else none
  | _ => none

def effRes (e : Eff) (H : AHeap) (k : Value → AHeap → OpRes) : Option (List OpRes) :=
  match e with
  | .pure v => some [k v H]
  | .read f => match f H.t with
    | some v => some [k v H]
    | none => none
  | .alloc m => some [k (m.val H.next) ⟨H.t.set H.next (some m.obj), H.next + 1⟩]
  | .turn f => match f H with
    | some os => some (os.map fun x => k x.1 x.2)
    | none => none
  | _ => none

def callV (T : Tab) (ec : EC) (fv : Value) (args : List Value) (H : AHeap) (k : Value → AHeap → OpRes) (kp : Chain → AHeap → OpRes) : Option (List OpRes) :=
  match fv with
  | .func (.func f) first cap =>
    let all := first.toList ++ args ++ cap.toList
    match T.orc f with
    | some g => match g all with
      | some m => some [k (m.val H.next) ⟨H.t.set H.next (some m.obj), H.next + 1⟩]
      | none => none
    | none => match T.ext f with
      | some g => match g all with
        | some e => effRes e H k
        | none => none
      | none => match T.fn f with
        | some F => bif F.body.isSome then callRes ec f all H k kp else none
        | none => none
  | .func (.yield l) first cap =>
    match cap.toList with
    | [] => yieldRes T ec l (first.toList ++ args) H k kp
    | _ => none
  | _ => none

/-- An operation by its operands' values; what becomes of its value, its deferred calls, the panics that it recovers and the heap is told by k; of its panic, by kp. -/
def opRunG (T : Tab) (ec : EC) (fi : FI) (ρ : Rho) (o : Oper) (up : Option Chain) (H : AHeap) (k : Value → List ADef → Option Chain → AHeap → OpRes) (kp : Chain → AHeap → OpRes) : Option (List OpRes) :=
  match effOf T.E ρ o with
  | none => none
  | some e => match e with
    | .call fv args => callV T ec fv args H (fun v H1 => k v [] up H1) kp
    | .defer fv args => match fi.round, fv with
      | none, .func (.func _) _ _ => some [k undef [.fn fv args] up H]
      | _, _ => none
    | .recover => match fi.round with
      | some _ => none
      | none => bif fi.dfr then match up with
          | some (p :: older) => bif p.recovered then some [k .nilIface [] up H] else some [k p.v [] (some ({ p with recovered := true } :: older)) H]
          | _ => some [k .nilIface [] up H]
        else some [k .nilIface [] up H]
    | .panic v => some [kp [⟨v, false⟩] H]
    | e => effRes e H fun v H1 => k v [] up H1

def addDefs (ds old : List ADef) : List ADef := List.rec old (fun d _ ih => d :: ih) ds
def AAct.after (a : AAct) (d : Option Tmp) (v : Value) (ds : List ADef) (up : Option Chain) : AAct := ⟨putT a.tm d v, addDefs ds a.defers, up⟩

def opRun (T : Tab) (ec : EC) (fi : FI) (o : Oper) (a : AAct) (H : AHeap) : Option (List OpRes) :=
  opRunG T ec fi (aev T.E a.tm) o a.up H (fun v ds up H1 => .next (a.after o.dst v ds up) H1) (fun ch H1 => .panic ch a H1)

/-- Is an operation wanted? Nothing, where that is not known. -/
def wantedG (ops : Array Oper) (g : Nat × Bool) (tm : Tm) : Option Bool :=
  match g with
  | (j, want) => match (ops.toList[j]?).bind (·.dst) with
    | none => some false
    | some d => match tm.get d with
      | none => some false
      | some (.bool b) => some (b == want)
      | some (.complex _ _ _) => none
      | some _ => some false

def wantedV (ops : Array Oper) (o : Oper) (tm : Tm) : Option Bool := Option.rec (some true) (fun g => wantedG ops g tm) o.guard

/-- Operations one behind the other. -/
def seqOps (T : Tab) (ec : EC) (fi : FI) (ops : Array Oper) (l : List Oper) : AAct → AHeap → Option (List Res) :=
  List.rec (fun a H => some [.code .normal a H]) (fun o _ ih a H => Option.rec none (fun b => Bool.rec (ih (a.put o.dst undef) H)
    (Option.rec none (fun rs => bindL rs fun r => OpRes.rec (fun a1 H1 => ih a1 H1) (fun ch a1 H1 => some [.code (.panic ch) a1 H1]) r) (opRun T ec fi o a H)) b) (wantedV ops o a.tm)) l

theorem seqOps_nil (T : Tab) (ec : EC) (fi : FI) (ops : Array Oper) (a : AAct) (H : AHeap) : seqOps T ec fi ops [] a H = some [.code .normal a H] := rfl
theorem seqOps_cons (T : Tab) (ec : EC) (fi : FI) (ops : Array Oper) (o : Oper) (rest : List Oper) (a : AAct) (H : AHeap) : seqOps T ec fi ops (o :: rest) a H = match wantedV ops o a.tm with
    | none => none
    | some false => seqOps T ec fi ops rest (a.put o.dst undef) H
    | some true => match opRun T ec fi o a H with
      | none => none
      | some rs => bindL rs fun
        | .next a1 H1 => seqOps T ec fi ops rest a1 H1
        | .panic ch a1 H1 => some [.code (.panic ch) a1 H1] := by
  show (Option.rec none (fun b => Bool.rec (seqOps T ec fi ops rest (a.put o.dst undef) H)
    (Option.rec none (fun rs => bindL rs fun r => OpRes.rec (fun a1 H1 => seqOps T ec fi ops rest a1 H1) (fun ch a1 H1 => some [.code (.panic ch) a1 H1]) r) (opRun T ec fi o a H)) b) (wantedV ops o a.tm) : Option (List Res)) = _
  cases wantedV ops o a.tm with
  | none => rfl
  | some b =>
    cases b with
    | false => rfl
    | true =>
      cases opRun T ec fi o a H with
      | none => rfl
      | some rs =>
        show bindL rs _ = bindL rs _
        congr 1
        funext r
        cases r <;> rfl

def scopeRun (ec : EC) (fi : FI) (body : Code) : Nat → Code → AAct → AHeap → Option (List Res)
  | 0, _, _, _ => none
  | n + 1, c, a, H => match ec (.code fi c a) H with
    | none => none
    | some rs => bindL rs fun
      | .code (.goto l) a1 H1 => match findLabel body l with
        | some rest => scopeRun ec fi body n rest a1 H1
        | none => some [.code (.goto l) a1 H1]
      | r => some [r]

def resultV (E : Env) (tm : Tm) (T : Tr) : ResultVar → Option Value
  | .tmp t => tm.get t
  | .cell a t => match tm.get a with
    | some p => loadV E t p T
    | none => none

def resultsV (E : Env) (tm : Tm) (T : Tr) : List ResultVar → Option (List Value)
  | [] => some []
  | r :: rs => match resultV E tm T r with
    | none => none
    | some v => match resultsV E tm T rs with
      | none => none
      | some vs => some (v :: vs)

def tupleV : List Value → Value
  | [v] => v
  | vs => .tuple vs.toArray

def settleV : Option Chain → Option Chain
  | some (p :: older) => bif p.recovered then none else some (p :: older)
  | m => m
def raisedV (m : Option Chain) (ch : Chain) : Option Chain :=
  match m with
  | some old => some (ch ++ old)
  | none => some ch

/-- A frame that is left: its deferred calls, then what it hands on. -/
def leave (T : Tab) (ec : EC) (F : Func) (tm : Tm) (up : Option Chain) : List ADef → Option Chain → AHeap → Option (List Res)
  | [], none, H => match resultsV T.E tm H.t F.results.toList with
    | some vs => some [.call (.ret (tupleV vs)) up H]
    | none => none
  | [], some ch, H => some [.call (.pan ch) up H]
  | .mark id :: ds, m, H => match H.t.get id with
    | some .nodefers => leave T ec F tm up ds m ⟨H.t.set id none, H.next⟩
    | _ => none
  | .fn fv args :: ds, m, H => match fv with
    | .func (.func f) first cap => match T.orc f, T.ext f, T.fn f with
      | none, none, some G => bif G.body.isSome then match ec (.call f (first.toList ++ args ++ cap.toList) true m) H with
        | none => none
        | some rs => bindL rs fun
          | .call (.ret _) m1 H1 => leave T ec F tm up ds (settleV m1) H1
          | .call (.pan ch) m1 H1 => leave T ec F tm up ds (raisedV m1 ch) H1
          | _ => none
        else none
      | _, _, _ => none
    | _ => none

end

end Go.WeftN
