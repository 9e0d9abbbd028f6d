/- One operation of the model's machine is what the evaluator says. -/
import Derived.Test.YtnlacfnniflkdaaGreatDoorNQ
namespace Go.WeftN

theorem aev_rel {T : Tab} {R : Nat → Option (List Value)} {e : Emb} {H : AHeap} (hb : Base T R e H) {tm : Tm} {ca : Act} (h : TmRel e tm ca.tmps) : RhoRel e (aev T.E tm) ca.eval := by
  intro x
  cases x with
  | tmp t =>
    simp only [aev, Act.eval]
    cases hx : tm.get t with
    | some v =>
      obtain ⟨v', hv', hr⟩ := h.get hx
      simp only [Option.getD_some, Array.getD_eq_getD_getElem?, hv']
      exact hr
    | none =>
      have h2 : ca.tmps[t]? = none := h.none hx
      simp only [Option.getD_none, Array.getD_eq_getD_getElem?, h2]
      exact .tuple rfl (fun i v v' hv => by simp at hv)
  | const v =>
    simp only [aev, Act.eval]
    cases hp : plainB 1 v with
    | true => exact plainB_rel 1 v e hp
    | false => exact .poison v
  | global g =>
    simp only [aev, Act.eval]
    cases hg : T.E.glob g with
    | true =>
      obtain ⟨av, he⟩ := hb.glob g hg
      exact .ptr (off := 0) (l := ⟨g, 0, av⟩) he
    | false => exact .poison _
  | func f => exact .func (.func f) rfl (fun i v v' hv => by simp at hv) rfl (fun i v v' hv => by simp at hv)

theorem undef_rel (e : Emb) : VRel e undef undef := .tuple rfl (fun i v v' hv => by simp at hv)

theorem TmRel.putT {e : Emb} {tm : Tm} {ts : Array Value} (h : TmRel e tm ts) (d : Option Tmp) {v v' : Value} (hv : VRel e v v') :
    TmRel e (putT tm d v) (match d with | some d => ts.setIfInBounds d v' | _ => ts) := by
  cases d with
  | none => exact h
  | some d => exact h.put d hv

theorem ActRel.put {e : Emb} {a : AAct} {ca : Act} (h : ActRel e a ca) (d : Option Tmp) {v v' : Value} (hv : VRel e v v') : ActRel e (a.put d v) (ca.put d v') := by
  refine ⟨?_, ?_⟩
  · have := h.1.putT d hv
    cases d <;> exact this
  · cases d <;> exact h.2

section steps
variable {P : Program} {b : Frame} {ca : Act} {k : List Item} {cs : List Frame} {w w' : World} {ops : Array Oper} {i : Nat} {rest : List Nat} {o : Oper} (ho : ops[i]? = some o) (hw : Region.wanted o (yielded ops ca.tmps) = true)
include ho hw

theorem step_op_value {v : Value} (hr : (o.semAt b.roundOf ca.eval).run P w = .ok (.value v) w') :
    step P (lone (b.atR ca (.inRegion ops (i :: rest) :: k)) cs w) = .next (lone (b.atR (ca.put o.dst v) (.inRegion ops rest :: k)) cs w') :=
  step_lone_go (by
    rw [stepGR_op ho hw]
    have hf := Frame.finish_atR b ca ops i rest k v
    rw [ho] at hf
    simp only [Option.bind_some] at hf
    simp [stepG.apply, hr, hf])

theorem step_op_skip (hr : (o.semAt b.roundOf ca.eval).run P w = .ok .skip w') :
    step P (lone (b.atR ca (.inRegion ops (i :: rest) :: k)) cs w) = .next (lone (b.atR (ca.put o.dst undef) (.inRegion ops rest :: k)) cs w') :=
  step_lone_go (by
    rw [stepGR_op ho hw]
    have hf := Frame.finish_atR b ca ops i rest k undef
    rw [ho] at hf
    simp only [Option.bind_some] at hf
    simp [stepG.apply, hr, hf])

theorem step_op_defer {d : Deferred} (hr : (o.semAt b.roundOf ca.eval).run P w = .ok (.defer d) w') :
    step P (lone (b.atR ca (.inRegion ops (i :: rest) :: k)) cs w) = .next (lone (b.atR ({ ca with defers := d :: ca.defers }.put o.dst undef) (.inRegion ops rest :: k)) cs w') :=
  step_lone_go (by
    rw [stepGR_op ho hw]
    have hf := Frame.finish_atR b { ca with defers := d :: ca.defers } ops i rest k undef
    rw [ho] at hf
    simp only [Option.bind_some] at hf
    have e1 : ({ b.atR ca (.inRegion ops (i :: rest) :: k) with defers := d :: ca.defers } : Frame) = b.atR { ca with defers := d :: ca.defers } (.inRegion ops (i :: rest) :: k) := rfl
    simp only [stepG.apply, Sem.runT_eq, hr, GStep.bare_after]
    show (GStep.go { frame := ({ b.atR ca (.inRegion ops (i :: rest) :: k) with defers := d :: ca.defers } : Frame).finish undef, callers := cs, status := .running, dying := none } w').bare = _
    rw [e1, hf]
    rfl)

theorem step_op_enter {f : FuncId} {args : Array Value} (hr : (o.semAt b.roundOf ca.eval).run P w = .ok (.enter f args) w') :
    step P (lone (b.atR ca (.inRegion ops (i :: rest) :: k)) cs w) = .next (lone (Frame.enter P f args .normal) (b.atR ca (.inRegion ops (i :: rest) :: k) :: cs) w') :=
  step_lone_go (by
    rw [stepGR_op ho hw]
    simp [stepG.apply, hr, Frame.atR])

theorem step_op_round {l : Nat} {f : FuncId} {tmps : Array Value} {assign body : Code} (hr : (o.semAt b.roundOf ca.eval).run P w = .ok (.round l f tmps assign body) w') :
    step P (lone (b.atR ca (.inRegion ops (i :: rest) :: k)) cs w) = .next (lone (Frame.round l f tmps assign body .normal) (b.atR ca (.inRegion ops (i :: rest) :: k) :: cs) w') :=
  step_lone_go (by
    rw [stepGR_op ho hw]
    simp [stepG.apply, hr])

theorem step_op_panic {v : Value} (hr : (o.semAt b.roundOf ca.eval).run P w = .halt (.panic v) w') :
    step P (lone (b.atR ca (.inRegion ops (i :: rest) :: k)) cs w) = .next (lone { b.atR ca (.inRegion ops (i :: rest) :: k) with mode := .panicking [{ v, recovered := false }] } cs w') :=
  step_lone_go (by
    rw [stepGR_op ho hw]
    have hf := Frame.raise_atR b ca (.inRegion ops (i :: rest) :: k) [{ v, recovered := false }]
    simp [stepG.apply, hr, hf])

theorem step_op_recover (hb : b.roundOf = none) (hr : (o.semAt b.roundOf ca.eval).run P w = .ok .recover w') :
    step P (lone (b.atR ca (.inRegion ops (i :: rest) :: k)) cs w) =
      match tryRecover (b.atR ca (.inRegion ops (i :: rest) :: k)) cs with
      | some (v, cs') => .next (lone (b.atR (ca.put o.dst v) (.inRegion ops rest :: k)) cs' w')
      | none => .next (lone (b.atR (ca.put o.dst .nilIface) (.inRegion ops rest :: k)) cs w') := by
  have hf := fun v => Frame.finish_atR b ca ops i rest k v
  rw [ho] at hf
  simp only [Option.bind_some] at hf
  have hro : (b.atR ca (.inRegion ops (i :: rest) :: k)).roundOf = none := hb
  cases ht : tryRecover (b.atR ca (.inRegion ops (i :: rest) :: k)) cs with
  | some p =>
    obtain ⟨v, cs'⟩ := p
    exact step_lone_go (by
      rw [stepGR_op ho hw]
      simp only [stepG.apply, Sem.runT_eq, hr, GStep.bare_after, hro, ht, hf]
      rfl)
  | none =>
    exact step_lone_go (by
      rw [stepGR_op ho hw]
      simp only [stepG.apply, Sem.runT_eq, hr, GStep.bare_after, hro, ht, hf]
      rfl)
end steps

/-- One of an operation's ends is met. -/
def OpMet (P : Program) (fi : FI) (e : Emb) (H : AHeap) (w : World) (b : Frame) (m0 : Machine) (ops : Array Oper) (rest : List Nat) (k : List Item) (cs : List Frame) : OpRes → Prop
  | .next a' H' => ∃ e' w' ca' m', Out e H w e' H' w' ∧ ActRel e' a' ca' ∧ UpRel fi.dfr e' a'.up m' ∧ Steps P m0 (lone (b.atR ca' (.inRegion ops rest :: k)) (withMode fi.dfr cs m') w')
  | .panic ch a' H' => ∃ e' w' ca' m' k' ch', Out e H w e' H' w' ∧ ActRel e' a' ca' ∧ UpRel fi.dfr e' a'.up m' ∧ ChRel e' ch ch' ∧ Steps P m0 (lone { b.atR ca' k' with mode := .panicking ch' } (withMode fi.dfr cs m') w')

section
variable {P : Program} {T : Tab} {R : Nat → Option (List Value)} (hT : TabOk P T R) {ec : EC} (hec : Meets P T R ec) {fi : FI} {e : Emb} {H : AHeap} {w : World} {b : Frame} {k : List Item} {cs : List Frame} {m : FrameMode} {a : AAct} {ca : Act} {ops : Array Oper} {i : Nat} {rest : List Nat} {o : Oper}
  (ho : ops[i]? = some o) (hw : Region.wanted o (yielded ops ca.tmps) = true) (r : Rep e H w) (hb : Base T R e H) (hfi : FiRel e fi b) (ha : ActRel e a ca) (hu : UpRel fi.dfr e a.up m)
include ho hw r ha hu

/-- Plain effects. -/
theorem effRes_met {s : Sem Next} {x : Eff} (hs : EffOk P e s x) (hsem : ∀ w, (o.semAt b.roundOf ca.eval).run P w = s.run P w) {ors : List OpRes} (h : effRes x H (fun v H1 => .next (a.put o.dst v) H1) = some ors) :
    ∃ res ∈ ors, OpMet P fi e H w b (lone (b.atR ca (.inRegion ops (i :: rest) :: k)) (withMode fi.dfr cs m) w) ops rest k cs res := by
  cases x with
  | pure v =>
    simp only [effRes] at h; cases h
    obtain ⟨v', h1, h2⟩ := hs w
    exact ⟨_, List.mem_singleton.2 rfl, e, w, _, m, Out.refl r, ha.put o.dst h2, hu, .one (step_op_value ho hw ((hsem w).trans h1))⟩
  | read f =>
    simp only [effRes] at h
    cases hf : f H.t with
    | none => rw [hf] at h; cases h
    | some v =>
      rw [hf] at h; cases h
      obtain ⟨v', h1, h2⟩ := hs H w v r hf
      exact ⟨_, List.mem_singleton.2 rfl, e, w, _, m, Out.refl r, ha.put o.dst h2, hu, .one (step_op_value ho hw ((hsem w).trans h1))⟩
  | alloc mk =>
    simp only [effRes] at h; cases h
    obtain ⟨v', ob, av, n, h1, h2⟩ := hs w H.next (r.fresh _ (Nat.le_refl _))
    have ho1 := (h2 { w with heap := w.heap.push ob } (by simp)).1
    have hv1 := (h2 { w with heap := w.heap.push ob } (by simp)).2
    have out := (Out.alloc r mk.obj ob av ho1).drawn n
    exact ⟨_, List.mem_singleton.2 rfl, _, _, _, m, out, (ha.mono out.le).put o.dst hv1, hu.mono out.le, .one (step_op_value ho hw ((hsem w).trans h1))⟩
  | turn f =>
    simp only [effRes] at h
    cases hf : f H with
    | none => rw [hf] at h; cases h
    | some os =>
      rw [hf] at h; cases h
      obtain ⟨v, H', nx, w', e', h1, h2, h3, h4⟩ := hs H w os r hf
      refine ⟨_, List.mem_map.2 ⟨(v, H'), h1, rfl⟩, ?_⟩
      rcases h4 with ⟨rfl, rfl⟩ | ⟨v', rfl, hv⟩
      · exact ⟨e', w', _, m, h3, (ha.mono h3.le).put o.dst (undef_rel e'), hu.mono h3.le, .one (step_op_skip ho hw ((hsem w).trans h2))⟩
      · exact ⟨e', w', _, m, h3, (ha.mono h3.le).put o.dst hv, hu.mono h3.le, .one (step_op_value ho hw ((hsem w).trans h2))⟩
  | call f args => simp [effRes] at h
  | defer f args => simp [effRes] at h
  | recover => simp [effRes] at h
  | panic v => simp [effRes] at h

include hec hb in
/-- A call of a function of the program. -/
theorem callRes_met {f : FuncId} {args args' : List Value} (hr : LRel e args args') (hsem : (o.semAt b.roundOf ca.eval).run P w = .ok (.enter f args'.toArray) w) {ors : List OpRes}
    (h : callRes ec f args H (fun v H1 => .next (a.put o.dst v) H1) (fun ch H1 => .panic ch a H1) = some ors) :
    ∃ res ∈ ors, OpMet P fi e H w b (lone (b.atR ca (.inRegion ops (i :: rest) :: k)) (withMode fi.dfr cs m) w) ops rest k cs res := by
  unfold callRes at h
  split at h
  · cases h
  · rename_i rs hrs
    obtain ⟨out, up', H', hin, e', w', m', fr, en, ho1, _, hst, hfn, hkind, hgo, hres⟩ := hec _ _ _ hrs e w (b.atR ca (.inRegion ops (i :: rest) :: k) :: withMode fi.dfr cs m) m args' r hb hr (fun h => by cases h) (fun h => by cases h)
    obtain ⟨zs, hz, hsub⟩ := bindL_mem h hin
    have hst0 : Steps P (lone (b.atR ca (.inRegion ops (i :: rest) :: k)) (withMode fi.dfr cs m) w) (lone fr (b.atR ca (.inRegion ops (i :: rest) :: k) :: withMode fi.dfr cs m) w') :=
      .head (step_op_enter ho hw hsem) hst
    cases out with
    | ret v =>
      simp only at hz; cases hz
      obtain ⟨v', rfl, hv⟩ := hres
      refine ⟨_, hsub _ (List.mem_singleton.2 rfl), e', w', _, m, ho1, (ha.mono ho1.le).put o.dst hv, hu.mono ho1.le, hst0.trans (.one ?_)⟩
      obtain ⟨g1, g2, g3⟩ := hgo
      have hl : fr.leaving P w' (.returned v') := ⟨g1, g2, hkind, g3⟩
      rw [step_leave_returned hl, Frame.finish_atR, ho]
      rfl
    | pan ch =>
      simp only at hz; cases hz
      obtain ⟨ch', rfl, hch⟩ := hres
      refine ⟨_, hsub _ (List.mem_singleton.2 rfl), e', w', ca, m, .inRegion ops (i :: rest) :: k, ch', ho1, ha.mono ho1.le, hu.mono ho1.le, hch, hst0.trans (.one ?_)⟩
      have hl : fr.leaving P w' (.panicked ch') := hgo
      rw [step_leave_panicked hl, Frame.raise_atR]

end

end Go.WeftN
