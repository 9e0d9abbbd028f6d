/- Loops over functions. -/
import Derived.Test.YtnlacfnniflkdaaGreatDoorNU
import Derived.RangeFuncIn
namespace Go.WeftN

theorem push_get (a : Array Obj) (x : Obj) : (a.push x)[a.size]? = some x := by simp

section
variable {P : Program} {T : Tab} {R : Nat → Option (List Value)} (hT : TabOk P T R) {ec : EC} (hec : Meets P T R ec) {fi : FI} {b : Frame} {k : List Item} {cs : List Frame} (hcs : fi.dfr = true → cs ≠ [])
include hT hec hcs

/-- What comes behind the record's making. -/
theorem rangeGo_met {g : FuncId} {first cap first' cap' : Array Value} {f : Operand} {ps : Array Tmp} {assign body : Code} {a0 : AAct} {ca ca0 : Act} {e0 e : Emb} {H0 H : AHeap} {w0 w : World} {m : FrameMode} {L : Nat} {lc : Loc} {mark : List Deferred} {rs : List Res}
    (r0 : Rep e0 H0 w0) (o0 : Out e0 H0 w0 e H w) (hb : Base T R e H) (hfi : FiRel e fi b) (ha : ActRel e a0 ca0) (hu : UpRel fi.dfr e a0.up m) (hca0 : ca0 = { ca with defers := mark ++ ca.defers })
    (he : (Instr.enterLoop b.fn ca.tmps ps assign body b.roundOf).run P w0 = .ok (lc.blk, mark) w) (hl : e L = some lc) (hf : ca.eval f = .func (.func g) first' cap')
    (hfa : ARel e first first') (hfc : ARel e cap cap') {F : Func} (hF : T.fn g = some F) (hbd : F.body.isSome = true)
    (h : (match ec (.call g (first.toList ++ [.func (.yield L) #[] #[]] ++ cap.toList) false none) H with
        | none => none
        | some rs => bindL rs fun
          | .call (.ret _) _ H1 => match H1.t.get L with
            | some (.loop R) => match R.state with
              | .busy => none
              | _ =>
                let H2 : AHeap := ⟨H1.t.set L (some (.loop { R with state := .exhausted })), H1.next⟩
                match R.pending with
                | none => some [.code .normal a0 H2]
                | some c => ec (.code fi c a0) H2
            | _ => none
          | .call (.pan ch) _ H1 => some [.code (.panic ch) a0 H1]
          | _ => none) = some rs) :
    CodeMet P fi e0 H0 w0 b (lone (b.atR ca (.code (.rangeFunc f ps assign body) :: k)) (withMode fi.dfr cs m) w0) k cs rs := by
  split at h
  · cases h
  · rename_i rs0 hrs0
    obtain ⟨hF1, hF2⟩ := hT.fn g F hF
    have hall : LRel e (first.toList ++ [.func (.yield L) #[] #[]] ++ cap.toList) (first'.toList ++ [Value.func (.yield lc.blk) #[] #[]] ++ cap'.toList) :=
      (hfa.toL.append (.cons (.func (.yield hl) rfl (fun i v v' hv => by simp at hv) rfl (fun i v v' hv => by simp at hv)) (.nil e))).append hfc.toL
    have hres : (resolve ca.eval (rangeCall f lc.blk) 0).run P w = .ok { target := .fn (.func g) cap', args := first' ++ #[Value.func (.yield lc.blk) #[] #[]] } w := by
      unfold resolve
      simp only [hf, Deferred.ofValue, Sem.run_pure]
      congr 2
      simp [Act.eval]
    have hinv : (invoke (.fn (.func g) cap') (first' ++ #[Value.func (.yield lc.blk) #[] #[]])).run P w = .ok (.enter g (first'.toList ++ [Value.func (.yield lc.blk) #[] #[]] ++ cap'.toList).toArray) w := by
      have e1 : (first' ++ #[Value.func (.yield lc.blk) #[] #[]] ++ cap' : Array Value) = (first'.toList ++ [Value.func (.yield lc.blk) #[] #[]] ++ cap'.toList).toArray := by apply Array.ext'; simp
      show (callFunc g (first' ++ #[Value.func (.yield lc.blk) #[] #[]] ++ cap')).run P w = _
      rw [e1]
      exact run_callFunc hF1 hF2 hbd _ w
    have hst0 := stepR_rangeFunc (b := b) (a := ca) (k := k) (cs := withMode fi.dfr cs m) he hres hinv
    rw [← hca0] at hst0
    obtain ⟨out, up', H1, hin, e1, w1, m1, fr, en, o1, _, hst, hfn, hkind, hgo, hout⟩ := hec _ _ _ hrs0 e w (b.atR ca0 (.inRangeFunc lc.blk :: k) :: withMode fi.dfr cs m) m _ o0.rep hb hall (fun h => by cases h) (fun h => by cases h)
    obtain ⟨zs, hz, hsub⟩ := bindL_mem h hin
    have hs1 : Steps P (lone (b.atR ca (.code (.rangeFunc f ps assign body) :: k)) (withMode fi.dfr cs m) w0) (lone fr (b.atR ca0 (.inRangeFunc lc.blk :: k) :: withMode fi.dfr cs m) w1) := .head hst0 hst
    have oall := o0.trans o1 r0
    cases out with
    | pan ch =>
      simp only at hz; cases hz
      obtain ⟨ch', rfl, hch⟩ := hout
      have h9 := step_leave_panicked (c := b.atR ca0 (.inRangeFunc lc.blk :: k)) (cs := withMode fi.dfr cs m) (fr := fr) (w := w1) hgo
      rw [Frame.raise_atR] at h9
      exact ⟨_, _, _, hsub _ (List.mem_singleton.2 rfl), e1, w1, ca0, m, oall, ha.mono o1.le, hu.mono o1.le, _, ch', hch, hs1.trans (.one h9)⟩
    | ret v =>
      simp only at hz
      obtain ⟨v', rfl, hv⟩ := hout
      split at hz
      · rename_i RL hRL
        obtain ⟨lc1, rc, q1, q2, q3, q4, q5, q6, q7, q8, q9, q10, ld, q11, q12⟩ := loop_of o1.rep hRL
        have hlc : lc1 = lc := by have := o1.le _ _ hl; rw [q1] at this; cases this; rfl
        subst hlc
        obtain ⟨g1, g2, g3⟩ := hgo
        have hlv : fr.leaving P w1 (.returned v') := ⟨g1, g2, hkind, g3⟩
        have h9 := step_leave_returned (c := b.atR ca0 (.inRangeFunc lc1.blk :: k)) (cs := withMode fi.dfr cs m) hlv
        rw [finish_atR_inRangeFunc] at h9
        have key : RL.state ≠ .busy → (match RL.pending with
                | none => some [Res.code .normal a0 ⟨H1.t.set L (some (.loop { RL with state := .exhausted })), H1.next⟩]
                | some c => ec (.code fi c a0) ⟨H1.t.set L (some (.loop { RL with state := .exhausted })), H1.next⟩) = some zs →
            CodeMet P fi e0 H0 w0 b (lone (b.atR ca (.code (.rangeFunc f ps assign body) :: k)) (withMode fi.dfr cs m) w0) k cs rs := by
          intro hnb hz2
          have o2 := Out.loop o1.rep hRL q1 q3 .exhausted RL.pending
          have hend : (Instr.endLoop lc1.blk).run P w1 = .ok RL.pending (World.putObj' w1 lc1.blk (.loop { rc with state := .exhausted, pending := RL.pending })) := by
            have e2 : ({ rc with state := .exhausted } : Loop) = { rc with state := .exhausted, pending := RL.pending } := by cases rc; simp_all
            have hne : (rc.state == .busy) = false := by rw [q4]; simpa using hnb
            unfold Instr.endLoop
            simp only [Sem.run_bind, run_getLoop' q3, Result.andThen_ok, hne, Bool.false_eq_true, if_false, run_setLoop q3, Sem.run_pure, q5]
          have hst2 := stepR_endRangeFunc (P := P) (b := b) (a := ca0) (k := k) (cs := withMode fi.dfr cs m) hend
          have oall2 := oall.trans o2 r0
          obtain ⟨j, hj⟩ : ∃ j, RL.pending = j := ⟨_, rfl⟩
          have hs2 : Steps P (lone (b.atR ca (.code (.rangeFunc f ps assign body) :: k)) (withMode fi.dfr cs m) w0) (lone (b.atR ca0 ((j.map Item.code).toList ++ k)) (withMode fi.dfr cs m) (World.putObj' w1 lc1.blk (.loop { rc with state := .exhausted, pending := RL.pending }))) := by
            rw [← hj]; exact (hs1.trans (.one h9)).trans (.one hst2)
          cases j with
          | none =>
            rw [hj] at hz2 oall2 o2 hs2
            simp only at hz2
            cases hz2
            exact ⟨_, _, _, hsub _ (List.mem_singleton.2 rfl), e1, _, ca0, m, oall2, ha.mono o1.le, hu.mono o1.le, hs2⟩
          | some c =>
            rw [hj] at hz2 oall2 o2 hs2
            simp only at hz2
            have hcm := hec _ _ _ hz2 e1 _ b k cs m ca0 oall2.rep ((hb.out o1).out o2) (hfi.mono o1.le) (ha.mono o1.le) (hu.mono o1.le) hcs
            exact CodeMet.of r0 oall2 hs2 hsub hcm
        split at hz
        · cases hz
        · rename_i hnb
          exact key (fun hb2 => hnb hb2) hz
      · cases hz

theorem rangeRun_met {f : Operand} {ps : Array Tmp} {assign body : Code} {a : AAct} {H : AHeap} {rs : List Res} (h : rangeRun T ec fi f ps assign body a H = some rs) {e : Emb} {w : World} {ca : Act} {m : FrameMode} (r : Rep e H w) (hb : Base T R e H) (hfi : FiRel e fi b) (ha : ActRel e a ca) (hu : UpRel fi.dfr e a.up m) :
    CodeMet P fi e H w b (lone (b.atR ca (.code (.rangeFunc f ps assign body) :: k)) (withMode fi.dfr cs m) w) k cs rs := by
  have hρ := aev_rel hb ha.1 f
  unfold rangeRun at h
  split at h
  · rename_i g first cap hfv
    rw [hfv] at hρ
    obtain ⟨first', cap', hfv', hfa, hfc⟩ : ∃ first' cap', ca.eval f = .func (.func g) first' cap' ∧ ARel e first first' ∧ ARel e cap cap' := by
      generalize ca.eval f = z at hρ
      cases hρ with
      | func hfn h1 h2 h3 h4 => cases hfn; exact ⟨_, _, rfl, ⟨h1, h2⟩, ⟨h3, h4⟩⟩
    split at h
    · rename_i ho hx
      cases hF : T.fn g with
      | none => rw [hF] at h; cases h
      | some F =>
        rw [hF] at h
        simp only at h
        cases hbd : F.body.isSome with
        | false => rw [hbd] at h; cases h
        | true =>
          rw [hbd, cond_true] at h
          split at h
          · -- an outermost loop
            rename_i hro
            have hrn : b.roundOf = none := by
              have := hfi.round
              rw [hro] at this
              cases hb2 : b.roundOf with
              | none => rfl
              | some _ => rw [hb2] at this; exact this.elim
            have o1 := Out.alloc r .nodefers (.deferred (some [])) 0 (by simp [ORel])
            have o2 := Out.alloc o1.rep (.loop ⟨.ready, none, fi.fn, a.tm, ps, assign, body, H.next⟩) (.loop { state := .ready, pending := none, fn := fi.fn, tmps := ca.tmps, params := ps, assign, body, defers := w.heap.size }) 0
              ⟨{ state := .ready, pending := none, fn := fi.fn, tmps := ca.tmps, params := ps, assign := assign, body := body, defers := w.heap.size }, push_get _ _, rfl, rfl, rfl, ha.1.mono (Emb.le_trans o1.le (Emb.le_add _ (o1.rep.fresh _ (Nat.le_refl _)))), rfl, rfl, rfl, ⟨w.heap.size, 0, 0⟩, (Emb.le_add _ (o1.rep.fresh _ (Nat.le_refl _))) _ _ (Emb.add_self _ _ _), rfl⟩
            have oo := o1.trans o2 r
            have he : (Instr.enterLoop b.fn ca.tmps ps assign body b.roundOf).run P w = .ok (w.heap.size + 1, [{ target := .collected w.heap.size, args := #[] }])
                { w with heap := (w.heap.push (.deferred (some []))).push (.loop { state := .ready, pending := none, fn := fi.fn, tmps := ca.tmps, params := ps, assign, body, defers := w.heap.size }) } := by
              rw [hrn, hfi.fn]
              unfold Instr.enterLoop
              simp only [Sem.run_bind, run_newObj, Result.andThen_ok, Sem.run_pure, Array.size_push]
            have hD : (e.add H.next ⟨w.heap.size, 0, 0⟩) H.next = some ⟨w.heap.size, 0, 0⟩ := Emb.add_self _ _ _
            refine rangeGo_met (a0 := { a with defers := .mark H.next :: a.defers }) (L := H.next + 1) (lc := ⟨w.heap.size + 1, 0, 0⟩) hT hec hcs r oo (hb.out oo) (hfi.mono oo.le) ?_ (hu.mono oo.le) rfl he ?_ hfv' (hfa.mono oo.le) (hfc.mono oo.le) hF hbd h
            · have hm := ha.mono oo.le
              refine ⟨hm.1, by simp [hm.2.1], fun j x y hx hy => ?_⟩
              cases j with
              | zero => simp at hx hy; subst hx hy; exact ⟨_, o2.le _ _ hD, rfl⟩
              | succ j => exact hm.2.2 j x y (by simpa using hx) (by simpa using hy)
            · simp [Emb.add]
          · -- one within a round
            rename_i l0 hro
            split at h
            · rename_i L0 hL0
              obtain ⟨lc0, rc, q1, q2, q3, q4, q5, q6, q7, q8, q9, q10, ld, q11, q12⟩ := loop_of r hL0
              have hrn : b.roundOf = some lc0.blk := by
                have := hfi.round
                rw [hro] at this
                cases hb2 : b.roundOf with
                | none => rw [hb2] at this; exact this.elim
                | some bb =>
                  rw [hb2] at this
                  obtain ⟨l3, h3, h4⟩ := this
                  rw [q1] at h3; cases h3; rw [h4]
              have hle := Emb.le_add (e := e) ⟨w.heap.size, 0, 0⟩ (r.fresh H.next (Nat.le_refl _))
              have oo := Out.alloc r (.loop ⟨.ready, none, fi.fn, a.tm, ps, assign, body, L0.defers⟩) (.loop { state := .ready, pending := none, fn := fi.fn, tmps := ca.tmps, params := ps, assign, body, defers := rc.defers }) 0
                ⟨{ state := .ready, pending := none, fn := fi.fn, tmps := ca.tmps, params := ps, assign := assign, body := body, defers := rc.defers }, push_get _ _, rfl, rfl, rfl, ha.1.mono hle, rfl, rfl, rfl, ld, hle _ _ q11, q12⟩
              have he : (Instr.enterLoop b.fn ca.tmps ps assign body b.roundOf).run P w = .ok (w.heap.size, [])
                  { w with heap := w.heap.push (.loop { state := .ready, pending := none, fn := fi.fn, tmps := ca.tmps, params := ps, assign, body, defers := rc.defers }) } := by
                rw [hrn, hfi.fn]
                unfold Instr.enterLoop
                simp [run_getLoop' q3]
              refine rangeGo_met (a0 := a) (ca0 := ca) (L := H.next) (lc := ⟨w.heap.size, 0, 0⟩) hT hec hcs r oo (hb.out oo) (hfi.mono oo.le) (ha.mono oo.le) (hu.mono oo.le) (by simp) he (Emb.add_self _ _ _) hfv' (hfa.mono oo.le) (hfc.mono oo.le) hF hbd h
            · cases h
    · cases h
  · cases h
end

end Go.WeftN
