/- Any operation; operations one behind the other. -/
import Derived.Test.YtnlacfnniflkdaaGreatDoorNS
import Derived.Recover
namespace Go.WeftN

theorem run_invoke_func {P : Program} {f : FuncId} {first cap : Array Value} {args : List Value} (w : World) :
    ((Deferred.ofValue (.func (.func f) first cap) args.toArray >>= fun d => invoke d.target d.args) : Sem Next).run P w = (callFunc f (first.toList ++ args ++ cap.toList).toArray).run P w := by
  simp only [Deferred.ofValue, pure_bind, invoke]
  congr 2
  apply Array.ext'; simp

theorem run_callFunc {P : Program} {f : FuncId} {F : Func} (h : P.funcs[f]? = some F) (hn : (F.name == "runtime.NumGoroutine") = false) (hb : F.body.isSome = true) (args : Array Value) (w : World) : (callFunc f args).run P w = .ok (.enter f args) w := by
  have hb2 : F.body.isNone = false := by cases hF : F.body <;> simp_all
  unfold callFunc
  simp only [Sem.run_bind, run_program, Result.andThen_ok, h, hn, Bool.false_eq_true, if_false, hb2, Sem.run_pure]

theorem wanted_rel {e : Emb} {tm : Tm} {ts : Array Value} (h : TmRel e tm ts) {ops : Array Oper} {o : Oper} {t : Bool} (hw : wantedV ops o tm = some t) : Region.wanted o (yielded ops ts) = t := by
  unfold wantedV at hw
  unfold Region.wanted
  cases hg : o.guard with
  | none => rw [hg] at hw; cases hw; rfl
  | some g =>
    obtain ⟨j, want⟩ := g
    rw [hg] at hw
    simp only [wantedG] at hw ⊢
    simp only [Array.getElem?_toList] at hw
    unfold yielded
    cases hd : (ops[j]?).bind (·.dst) with
    | none => rw [hd] at hw; cases hw; simp
    | some d =>
      rw [hd] at hw
      simp only [Option.bind_some] at hw ⊢
      cases hv : tm.get d with
      | none =>
        simp only [hv] at hw; cases hw
        have : ts[d]? = none := h.none hv
        simp [this]
      | some v =>
        simp only [hv] at hw
        obtain ⟨v', hv', hr⟩ := h.get hv
        rw [hv']
        cases hr <;> simp only at hw <;> first
          | (cases hw; simp; done)
          | (cases hw)

section
variable {P : Program} {T : Tab} {R : Nat → Option (List Value)} (hT : TabOk P T R) {ec : EC} (hec : Meets P T R ec) {fi : FI} {e : Emb} {H : AHeap} {w : World} {b : Frame} {k : List Item} {cs : List Frame} {m : FrameMode} {a : AAct} {ca : Act} {ops : Array Oper} {i : Nat} {rest : List Nat} {o : Oper}
  (ho : ops[i]? = some o) (hw : Region.wanted o (yielded ops ca.tmps) = true) (r : Rep e H w) (hb : Base T R e H) (hfi : FiRel e fi b) (ha : ActRel e a ca) (hu : UpRel fi.dfr e a.up m) (hcs : fi.dfr = true → cs ≠ [])
include hT hec ho hw r hb ha hu

theorem callV_met {fv fv' : Value} {args args' : List Value} (hf : VRel e fv fv') (hr : LRel e args args') (hsem : ∀ w, (o.semAt b.roundOf ca.eval).run P w = ((Deferred.ofValue fv' args'.toArray >>= fun d => invoke d.target d.args) : Sem Next).run P w) {ors : List OpRes}
    (h : callV T ec fv args H (fun v H1 => .next (a.put o.dst v) H1) (fun ch H1 => .panic ch a H1) = some ors) :
    ∃ res ∈ ors, OpMet P fi e H w b (lone (b.atR ca (.inRegion ops (i :: rest) :: k)) (withMode fi.dfr cs m) w) ops rest k cs res := by
  unfold callV at h
  split at h
  · rename_i f first cap
    cases hf with
    | func hfn hfa hfai hfc hfci =>
      rename_i fn' first' cap'
      cases hfn
      have hall : LRel e (first.toList ++ args ++ cap.toList) (first'.toList ++ args' ++ cap'.toList) := ((ARel.toL ⟨hfa, hfai⟩).append hr).append (ARel.toL ⟨hfc, hfci⟩)
      have hsem2 : ∀ w, (o.semAt b.roundOf ca.eval).run P w = (callFunc f (first'.toList ++ args' ++ cap'.toList).toArray).run P w := fun w => by rw [hsem w, run_invoke_func]
      simp only at h
      split at h
      · rename_i g hg
        split at h
        · rename_i mk hm
          cases h
          obtain ⟨h3, h4⟩ := hT.orc f g _ mk hg hm e H w _ r hb hall
          obtain ⟨en, w2, fr, ⟨v', e', hen, h1, h2⟩, hcomes, hfn2, hleave⟩ := h4 (b.atR ca (.inRegion ops (i :: rest) :: k) :: withMode fi.dfr cs m)
          subst hen
          refine ⟨_, List.mem_singleton.2 rfl, e', w2, _, m, h1, (ha.mono h1.le).put o.dst h2, hu.mono h1.le, ?_⟩
          have hcomes2 : Steps P (lone (Frame.enter P f (first'.toList ++ args' ++ cap'.toList).toArray .normal) (b.atR ca (.inRegion ops (i :: rest) :: k) :: withMode fi.dfr cs m) w) (lone fr (b.atR ca (.inRegion ops (i :: rest) :: k) :: withMode fi.dfr cs m) w2) := hcomes
          refine (Steps.head (step_op_enter ho hw ((hsem2 w).trans (h3 w))) hcomes2).trans (.one ?_)
          have h9 := step_leave_returned (c := b.atR ca (.inRegion ops (i :: rest) :: k)) (cs := withMode fi.dfr cs m) hleave
          rw [Frame.finish_atR, ho] at h9
          exact h9
        · cases h
      · split at h
        · rename_i g hg
          split at h
          · rename_i x hx
            exact effRes_met ho hw r ha hu (hT.ext f g _ x hg hx e _ hall) hsem2 h
          · cases h
        · -- a function of the program
          split at h
          · rename_i F hF
            obtain ⟨hF1, hF2⟩ := hT.fn f F hF
            cases hbd : F.body.isSome with
            | false => rw [hbd] at h; cases h
            | true =>
              rw [hbd, cond_true] at h
              exact callRes_met hec ho hw r hb ha hu hall ((hsem2 w).trans (run_callFunc hF1 hF2 hbd _ w)) h
          · cases h
  · rename_i l first cap
    split at h
    · rename_i hcap
      cases hf with
      | func hfn hfa hfai hfc hfci =>
        rename_i fn' first' cap'
        cases hfn with
        | yield hl =>
          rename_i lc
          have hall : LRel e (first.toList ++ args) (first'.toList ++ args') := (ARel.toL ⟨hfa, hfai⟩).append hr
          refine yieldRes_met hT hec ho hw r hb ha hu hl hall ?_ h
          rw [hsem w]
          simp only [Deferred.ofValue, pure_bind, invoke]
          congr 2
          apply Array.ext'; simp
    · cases h
  · cases h
end


def isDefer : Op → Bool
  | .defer _ => true
  | _ => false

theorem semAt_eq' {ro : Option Nat} {ρ : Operand → Value} {o : Oper} (h : isDefer o.op = false ∨ ro = none) : o.semAt ro ρ = execOp ρ o := by
  rcases h with h | h
  · exact Oper.semAt_eq ro ρ o (fun c hc => by rw [hc] at h; cases h)
  · subst h; rfl

theorem effOf_defer {E : Env} {ρ : Rho} {o : Oper} {x : Eff} (h : effOf E ρ o = some x) (hx : ∀ f args, x ≠ .defer f args) : isDefer o.op = false := by
  cases ho : o.op <;> try rfl
  exfalso
  unfold effOf at h
  rw [ho] at h
  simp only at h
  split at h
  · cases h; exact hx _ _ rfl
  · cases h

section
variable {P : Program} {T : Tab} {R : Nat → Option (List Value)} (hT : TabOk P T R) {ec : EC} (hec : Meets P T R ec) {fi : FI} {e : Emb} {H : AHeap} {w : World} {b : Frame} {k : List Item} {cs : List Frame} {m : FrameMode} {a : AAct} {ca : Act} {ops : Array Oper} {i : Nat} {rest : List Nat} {o : Oper}
  (ho : ops[i]? = some o) (hw : Region.wanted o (yielded ops ca.tmps) = true) (r : Rep e H w) (hb : Base T R e H) (hfi : FiRel e fi b) (ha : ActRel e a ca) (hu : UpRel fi.dfr e a.up m) (hcs : fi.dfr = true → cs ≠ [])
include hT hec ho hw r hb hfi ha hu hcs

theorem opRunG_met {ρ : Rho} (hρ : RhoRel e ρ ca.eval) {ors : List OpRes} (h : opRunG T ec fi ρ o a.up H (fun v ds up H1 => .next (a.after o.dst v ds up) H1) (fun ch H1 => .panic ch a H1) = some ors) :
    ∃ res ∈ ors, OpMet P fi e H w b (lone (b.atR ca (.inRegion ops (i :: rest) :: k)) (withMode fi.dfr cs m) w) ops rest k cs res := by
  unfold opRunG at h
  split at h
  · cases h
  · rename_i x hx
    have hx2 := effOf_ok hT.env hρ hx
    have hround : fi.round = none → b.roundOf = none := by
      intro hn
      have := hfi.round
      rw [hn] at this
      cases hb2 : b.roundOf with
      | none => rfl
      | some _ => rw [hb2] at this; exact this.elim
    split at h
    · rename_i fv args
      obtain ⟨fv', args', h1, h2, h3⟩ := hx2
      have hnd := effOf_defer hx (fun f as h => by cases h)
      exact callV_met hT hec ho hw r hb ha hu h1 h2 (fun w => by rw [semAt_eq' (.inl hnd)]; exact h3 w) h
    · rename_i fv args
      obtain ⟨fv', args', h1, h2, h3⟩ := hx2
      split at h
      · rename_i f first cap hro
        cases h
        cases h1 with
        | func hfn hfa hfai hfc hfci =>
          rename_i fn' first' cap'
          cases hfn
          have hrn := hround hro
          have hrun : (o.semAt b.roundOf ca.eval).run P w = .ok (.defer { target := .fn (.func f) cap', args := first' ++ args'.toArray }) w := by
            rw [semAt_eq' (.inr hrn), h3 w]
            simp [Deferred.ofValue]
          refine ⟨_, List.mem_singleton.2 rfl, e, w, _, m, Out.refl r, ?_, hu, .one (step_op_defer ho hw hrun)⟩
          have hp := ha.put o.dst (undef_rel e)
          have et : ∀ (X : List Deferred) (d : Option Tmp), (({ ca with defers := X } : Act).put d undef).tmps = (ca.put d undef).tmps := fun X d => by cases d <;> rfl
          have ed : ∀ (X : List Deferred) (d : Option Tmp), (({ ca with defers := X } : Act).put d undef).defers = X := fun X d => by cases d <;> rfl
          refine ⟨?_, ?_⟩
          · rw [et]; exact hp.1
          · have hd := ha.2
            rw [ed]
            have : DRel e (.fn (.func (.func f) first cap) args :: a.defers) ({ target := .fn (.func f) cap', args := first' ++ args'.toArray } :: ca.defers) := by
              refine ⟨by simp [hd.1], fun j x y hxj hyj => ?_⟩
              cases j with
              | zero =>
                simp at hxj hyj; subst hxj hyj
                exact ⟨_, _, _, _, _, _, _, rfl, .func f, ⟨hfa, hfai⟩, ⟨hfc, hfci⟩, h2, rfl⟩
              | succ j => exact hd.2 j x y (by simpa using hxj) (by simpa using hyj)
            exact this
      · cases h
    · -- recover
      have hnd := effOf_defer hx (fun f as h => by cases h)
      split at h
      · cases h
      · rename_i hro
        have hrn := hround hro
        have hrun : (o.semAt b.roundOf ca.eval).run P w = .ok .recover w := by rw [semAt_eq' (.inl hnd)]; exact hx2 w
        have hstep := step_op_recover (k := k) (rest := rest) (cs := withMode fi.dfr cs m) ho hw hrn hrun
        have hkind : (b.atR ca (.inRegion ops (i :: rest) :: k)).kind = b.kind := rfl
        rcases Bool.eq_false_or_eq_true fi.dfr with hd | hd
        rotate_left
        · rw [hd, cond_false] at h; cases h
          have hk : b.kind = .normal := by rw [hfi.kind, hd]; rfl
          have htr : tryRecover (b.atR ca (.inRegion ops (i :: rest) :: k)) (withMode fi.dfr cs m) = none := by
            unfold tryRecover; rw [hkind, hk]
          rw [htr] at hstep
          exact ⟨_, List.mem_singleton.2 rfl, e, w, _, m, Out.refl r, ha.put o.dst .nilIface, hu, .one hstep⟩
        · rw [hd, cond_true] at h
          have hk : b.kind = .deferred := by rw [hfi.kind, hd]; rfl
          obtain ⟨c, rs, rfl⟩ : ∃ c rs, cs = c :: rs := by
            cases cs with
            | nil => exact absurd rfl (hcs hd)
            | cons c rs => exact ⟨c, rs, rfl⟩
          have htr : tryRecover (b.atR ca (.inRegion ops (i :: rest) :: k)) (withMode fi.dfr (c :: rs) m) = recoverD ({ c with mode := m } :: rs) := by
            rw [hd, tryRecover_deferred (by rw [hkind, hk])]; rfl
          rw [htr] at hstep
          have hu' := hu hd
          split at h
          · rename_i p older hup
            rw [hup] at hu'
            obtain ⟨ch', hm, hch⟩ := hu'
            cases ch' with
            | nil => have := hch.1; simp at this
            | cons p' older' =>
              obtain ⟨g1, g2, g3⟩ := hch.2 0 p p' rfl rfl
              have holder : ChRel e older older' := ⟨by have := hch.1; simpa using this, fun j x y hx hy => hch.2 (j + 1) x y (by simpa using hx) (by simpa using hy)⟩
              cases hrec : p.recovered with
              | true =>
                rw [hrec, cond_true] at h; cases h
                have hn : recoverD ({ c with mode := m } :: rs) = none := by
                  subst hm
                  unfold recoverD
                  simp only
                  split
                  · rename_i heq
                    simp only [FrameMode.panicking.injEq, List.cons.injEq] at heq
                    rw [heq.1] at g2; simp [hrec] at g2
                  · rfl
                rw [hn] at hstep
                exact ⟨_, List.mem_singleton.2 rfl, e, w, _, m, Out.refl r, ha.put o.dst .nilIface, hu, .one hstep⟩
              | false =>
                rw [hrec, cond_false] at h; cases h
                have hn : recoverD ({ c with mode := m } :: rs) = some (p'.v, { c with mode := .panicking ({ v := p'.v, recovered := true } :: older') } :: rs) := by
                  subst hm
                  obtain ⟨pv, pr, pg⟩ := p'
                  simp only at g2 g3
                  rw [hrec] at g2; subst g2 g3
                  rfl
                rw [hn] at hstep
                refine ⟨_, List.mem_singleton.2 rfl, e, w, ca.put o.dst p'.v, .panicking ({ v := p'.v, recovered := true } :: older'), Out.refl r, ?_, ?_, ?_⟩
                · have := ha.put o.dst g1
                  exact ⟨this.1, this.2⟩
                · intro _
                  refine ⟨_, rfl, by simp [holder.1], fun j x y hx hy => ?_⟩
                  cases j with
                  | zero => simp at hx hy; subst hx hy; exact ⟨g1, rfl, rfl⟩
                  | succ j => exact holder.2 j x y (by simpa using hx) (by simpa using hy)
                · refine .one (hstep.trans ?_)
                  rw [hd]; rfl
          · rename_i hnot
            cases h
            have hn : recoverD ({ c with mode := m } :: rs) = none := by
              cases hup : a.up with
              | none => rw [hup] at hu'; subst hu'; rfl
              | some ch =>
                rw [hup] at hu'
                obtain ⟨ch', hm, hch⟩ := hu'
                cases ch with
                | nil =>
                  have : ch' = [] := by have := hch.1; exact List.length_eq_zero_iff.1 (by simpa using this.symm)
                  subst this hm; rfl
                | cons p older => exact absurd hup (hnot p older)
            rw [hn] at hstep
            exact ⟨_, List.mem_singleton.2 rfl, e, w, _, m, Out.refl r, ha.put o.dst .nilIface, hu, .one hstep⟩
    · -- panic
      rename_i v
      cases h
      have hnd := effOf_defer hx (fun f as h => by cases h)
      obtain ⟨v', h1, h2⟩ := hx2
      refine ⟨_, List.mem_singleton.2 rfl, e, w, ca, m, _, _, Out.refl r, ha, hu, ?_, .one (step_op_panic ho hw (by rw [semAt_eq' (.inl hnd)]; exact h2 w))⟩
      refine ⟨rfl, fun j x y hx hy => ?_⟩
      cases j with
      | zero => simp at hx hy; subst hx hy; exact ⟨h1, rfl, rfl⟩
      | succ j => simp at hx
    · rename_i hnc hndf hnr hnp
      have hnd := effOf_defer hx (fun f as h2 => hndf f as h2)
      exact effRes_met ho hw r ha hu hx2 (fun w => by rw [semAt_eq' (.inl hnd)]) h

theorem opRun_met {ors : List OpRes} (h : opRun T ec fi o a H = some ors) :
    ∃ res ∈ ors, OpMet P fi e H w b (lone (b.atR ca (.inRegion ops (i :: rest) :: k)) (withMode fi.dfr cs m) w) ops rest k cs res :=
  opRunG_met hT hec ho hw r hb hfi ha hu hcs (aev_rel hb ha.1) h
end

end Go.WeftN
