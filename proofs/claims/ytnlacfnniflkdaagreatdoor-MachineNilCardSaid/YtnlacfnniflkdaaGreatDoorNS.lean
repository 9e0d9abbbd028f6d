/- A round of a loop over a function. -/
import Derived.Test.YtnlacfnniflkdaaGreatDoorNR
namespace Go.WeftN

theorem run_getLoop' {P : Program} {w : World} {b : Nat} {r : Loop} (h : w.heap[b]? = some (.loop r)) : (Instr.getLoop b).run P w = .ok r w := by
  simp [Instr.getLoop, getObj, Sem.run, h]
theorem run_setLoop {P : Program} {w : World} {b : Nat} {r : Loop} (h : w.heap[b]? = some (.loop r)) (o : Obj) : (setObj b o).run P w = .ok () (World.putObj' w b o) := by
  simp [setObj, Sem.run, h, World.putObj']

theorem loop_of {e : Emb} {H : AHeap} {w : World} (r : Rep e H w) {l : Nat} {L : ALoop} (h : H.t.get l = some (.loop L)) :
    ∃ lc rc, e l = some lc ∧ lc.blk < w.heap.size ∧ w.heap[lc.blk]? = some (.loop rc) ∧ rc.state = L.state ∧ rc.pending = L.pending ∧ rc.fn = L.fn ∧ TmRel e L.tm rc.tmps ∧ rc.params = L.params ∧ rc.assign = L.assign ∧ rc.body = L.body ∧
      ∃ ld, e L.defers = some ld ∧ rc.defers = ld.blk := by
  obtain ⟨lc, h1, hr⟩ := r.obj l _ h
  have hb := hr.there
  obtain ⟨rc, h2, h3⟩ := hr
  exact ⟨lc, rc, h1, hb, h2, h3⟩

/-- The record of a loop is turned. -/
theorem Out.loop {e : Emb} {H : AHeap} {w : World} (r : Rep e H w) {l : Nat} {L : ALoop} (h : H.t.get l = some (.loop L)) {lc : Loc} (hl : e l = some lc) {rc : Loop} (hw : w.heap[lc.blk]? = some (.loop rc)) (st : LoopState) (pe : Option Code) :
    Out e H w e ⟨H.t.set l (some (.loop { L with state := st, pending := pe })), H.next⟩ (World.putObj' w lc.blk (.loop { rc with state := st, pending := pe })) := by
  have hb : lc.blk < w.heap.size := (Array.getElem?_eq_some_iff.1 hw).1
  obtain ⟨l2, hl2, hr⟩ := r.obj l _ h
  rw [hl] at hl2; cases hl2
  obtain ⟨rc2, h2, h3, h4, h5, h6, h7, h8, h9, h10⟩ := hr
  rw [hw] at h2; cases h2
  refine Out.turn r h rfl hl _ (by intro cs; simp) _ putObj'_size (fun b hb => putObj'_other hb) rfl rfl rfl ?_
  exact ⟨_, putObj'_heap hb, rfl, rfl, h5, h6, h7, h8, h9, h10⟩

theorem roundTm_rel {e : Emb} : ∀ (ps : List Tmp) {args args' : List Value} {tm : Tm} {ts : Array Value}, LRel e args args' → TmRel e tm ts →
    TmRel e (roundTm tm ps args) ((ps.zip args').foldl (fun (t : Array Value) (x : Tmp × Value) => t.setIfInBounds x.1 x.2) ts)
  | [], args, args', tm, ts, _, h => by simpa [roundTm] using h
  | p :: ps, [], args', tm, ts, ra, h => by rw [ra.nil_inv]; simpa [roundTm] using h
  | p :: ps, v :: args, args', tm, ts, ra, h => by
    obtain ⟨v', b', rfl, hv, hr⟩ := ra.uncons
    have h1 : TmRel e (tm.put p v) (ts.setIfInBounds p v') := h.put p hv
    have h2 := roundTm_rel ps hr h1
    simpa [roundTm] using h2

section
variable {P : Program} {T : Tab} {R : Nat → Option (List Value)} (hT : TabOk P T R) {ec : EC} (hec : Meets P T R ec) {fi : FI} {e : Emb} {H : AHeap} {w : World} {b : Frame} {k : List Item} {cs : List Frame} {m : FrameMode} {a : AAct} {ca : Act} {ops : Array Oper} {i : Nat} {rest : List Nat} {o : Oper}
  (ho : ops[i]? = some o) (hw : Region.wanted o (yielded ops ca.tmps) = true) (r : Rep e H w) (hb : Base T R e H) (ha : ActRel e a ca) (hu : UpRel fi.dfr e a.up m)
include hT hec ho hw r hb ha hu

theorem yieldRes_met {l : Nat} {lc : Loc} (hl : e l = some lc) {args args' : List Value} (hr : LRel e args args') (hsem : (o.semAt b.roundOf ca.eval).run P w = (Instr.yield lc.blk args'.toArray).run P w) {ors : List OpRes}
    (h : yieldRes T ec l args H (fun v H1 => .next (a.put o.dst v) H1) (fun ch H1 => .panic ch a H1) = some ors) :
    ∃ res ∈ ors, OpMet P fi e H w b (lone (b.atR ca (.inRegion ops (i :: rest) :: k)) (withMode fi.dfr cs m) w) ops rest k cs res := by
  unfold yieldRes at h
  split at h
  · rename_i L hL
    obtain ⟨lc2, rc, q1, q2, q3, q4, q5, q6, q7, q8, q9, q10, ld, q11, q12⟩ := loop_of r hL
    rw [hl] at q1; cases q1
    cases hbb : (Nat.beq args.length L.params.toList.length && (T.fn L.fn).isSome) with
    | false => rw [hbb] at h; cases h
    | true =>
      rw [hbb, cond_true] at h
      simp only [Bool.and_eq_true] at hbb
      have hlen := Nat.eq_of_beq_eq_true hbb.1
      obtain ⟨F, hF⟩ := Option.isSome_iff_exists.1 hbb.2
      obtain ⟨hF1, _⟩ := hT.fn _ _ hF
      split at h
      · cases h
      · rename_i rs hrs
        -- the round begins
        have hyield : (Instr.yield lc.blk args'.toArray).run P w = .ok (.round lc.blk L.fn ((L.params.toList.zip args').foldl (fun (t : Array Value) (x : Tmp × Value) => t.setIfInBounds x.1 x.2) rc.tmps) L.assign L.body) w := by
          have hsz : ¬ (args'.toArray.size ≠ rc.params.size) := by
            have := hr.1
            rw [q8]; simp at hlen ⊢; omega
          unfold Instr.yield
          simp only [Sem.run_bind, run_getLoop' q3, Result.andThen_ok]
          rw [if_neg hsz]
          simp only [Sem.run_pure, q6, q9, q10, q8]
          congr 2
          rw [← Array.foldl_toList]
          simp [Array.toList_zip]
        have hstep0 := step_op_round (cs := withMode fi.dfr cs m) (k := k) (rest := rest) ho hw (hsem.trans hyield)
        generalize hts : ((L.params.toList.zip args').foldl (fun (t : Array Value) (x : Tmp × Value) => t.setIfInBounds x.1 x.2) rc.tmps) = ts at *
        have hts2 : TmRel e (roundTm L.tm L.params.toList args) ts := by rw [← hts]; exact roundTm_rel _ hr q7
        let b' : Frame := { (default : Frame) with fn := L.fn, kind := .normal, roundOf := some lc.blk }
        have hround : Frame.round lc.blk L.fn ts L.assign L.body .normal = b'.atR ⟨ts, []⟩ (.code L.assign :: [.beginRound, .code L.body]) := rfl
        have hfi' : FiRel e ⟨L.fn, some l, false⟩ b' := ⟨rfl, rfl, ⟨lc, hl, rfl⟩, fun h => by cases h⟩
        obtain ⟨x, a1, H1, hin, e1, w1, ca1, m1, o1, ha1, _, hend⟩ := hec _ _ _ hrs e w b' [.beginRound, .code L.body] (b.atR ca (.inRegion ops (i :: rest) :: k) :: withMode fi.dfr cs m) m ⟨ts, []⟩ r hb hfi' ⟨hts2, rfl, fun i x y hx => by simp at hx⟩ (fun h => by cases h) (fun h => by cases h)
        obtain ⟨zs, hz, hsub⟩ := bindL_mem h hin
        rw [← hround] at hend
        cases x with
        | exit _ => simp only at hz; cases hz
        | goto _ => simp only at hz; cases hz
        | ret => simp only at hz; cases hz
        | panic _ => simp only at hz; cases hz
        | normal =>
          simp only at hz
          have hend1 : Steps P (lone (Frame.round lc.blk L.fn ts L.assign L.body .normal) (b.atR ca (.inRegion ops (i :: rest) :: k) :: withMode fi.dfr cs m) w) (lone (b'.atR ca1 [.beginRound, .code L.body]) (b.atR ca (.inRegion ops (i :: rest) :: k) :: withMode fi.dfr cs m) w1) := hend
          split at hz
          · rename_i L1 hd1 hL1
            split at hz
            · rename_i hst1
              split at hz
              · cases hz
              · rename_i rs2 hrs2
                obtain ⟨lc1, rc1, p1, p2, p3, p4, p5, p6, p7, p8, p9, p10, ld1, p11, p12⟩ := loop_of o1.rep hL1
                have hlc1 : lc1 = lc := by have := o1.le _ _ hl; rw [p1] at this; cases this; rfl
                subst hlc1
                -- it is busy
                have hbusy : ({ L1 with state := .busy } : ALoop) = { L1 with state := .busy, pending := L1.pending } := rfl
                have o2 := Out.loop o1.rep hL1 p1 p3 .busy L1.pending
                have hbr : (Instr.beginRound lc1.blk).run P w1 = .ok () (World.putObj' w1 lc1.blk (.loop { rc1 with state := .busy, pending := L1.pending })) := by
                  have e2 : ({ rc1 with state := .busy } : Loop) = { rc1 with state := .busy, pending := L1.pending } := by cases rc1; simp_all
                  unfold Instr.beginRound
                  simp only [Sem.run_bind, run_getLoop' p3, Result.andThen_ok, run_setLoop p3, p4, hst1, Sem.run_pure, e2]
                have hstep1 := stepR_beginRound (P := P) (b := b') (a := ca1) (k := [.code L.body]) (cs := b.atR ca (.inRegion ops (i :: rest) :: k) :: withMode fi.dfr cs m) rfl hbr
                have hb2 := (hb.out o1).out o2
                have ha2 : ActRel e1 a1 ca1 := ha1
                have hfi2 : FiRel e1 ⟨L.fn, some l, false⟩ b' := hfi'.mono o1.le
                obtain ⟨x2, a3, H3, hin2, e3, w3, ca3, m3, o3, ha3, _, hend2⟩ := hec _ _ _ hrs2 e1 _ b' [] (b.atR ca (.inRegion ops (i :: rest) :: k) :: withMode fi.dfr cs m) m ca1 o2.rep hb2 hfi2 ha2 (fun h => by cases h) (fun h => by cases h)
                obtain ⟨zs2, hz2, hsub2⟩ := bindL_mem hz hin2
                simp only at hz2
                have oall : Out e H w e3 H3 w3 := (o1.trans o2 r).trans o3 r
                have hs3 : Steps P (lone (b.atR ca (.inRegion ops (i :: rest) :: k)) (withMode fi.dfr cs m) w) (lone (b'.atR ca1 [.code L.body]) (b.atR ca (.inRegion ops (i :: rest) :: k) :: withMode fi.dfr cs m) (World.putObj' w1 lc1.blk (.loop { rc1 with state := .busy, pending := L1.pending }))) :=
                  .head hstep0 (hend1.trans (.one hstep1))
                split at hz2
                · rename_i L3 hd3 hL3
                  obtain ⟨lc3, rc3, u1, u2, u3, u4, u5, u6, u7, u8, u9, u10, ld3, u11, u12⟩ := loop_of o3.rep hL3
                  have hlc3 : lc3 = lc1 := by have := o3.le _ _ p1; rw [u1] at this; cases this; rfl
                  subst hlc3
                  have hfin : ∀ j : Option Code, (Instr.endRound lc3.blk j).run P w3 = .ok (.bool j.isNone) (World.putObj' w3 lc3.blk (.loop { rc3 with state := if j.isNone then .ready else .done, pending := j })) := by
                    intro j
                    unfold Instr.endRound
                    simp only [Sem.run_bind, run_getLoop' u3, Result.andThen_ok, run_setLoop u3, Sem.run_pure]
                  have hout : ∀ j : Option Code, Out e H w e3 ⟨H3.t.set l (some (.loop { L3 with state := if j.isNone then .ready else .done, pending := j })), H3.next⟩ (World.putObj' w3 lc3.blk (.loop { rc3 with state := if j.isNone then .ready else .done, pending := j })) :=
                    fun j => oall.trans (Out.loop o3.rep hL3 u1 u3 _ j) r
                  have hnext : ∀ j : Option Code, (∃ m0, Steps P (lone (b.atR ca (.inRegion ops (i :: rest) :: k)) (withMode fi.dfr cs m) w) m0 ∧
                      step P m0 = .next (lone ((b.atR ca (.inRegion ops (i :: rest) :: k)).finish (.bool j.isNone)) (withMode fi.dfr cs m) (World.putObj' w3 lc3.blk (.loop { rc3 with state := if j.isNone then .ready else .done, pending := j })))) →
                      OpMet P fi e H w b (lone (b.atR ca (.inRegion ops (i :: rest) :: k)) (withMode fi.dfr cs m) w) ops rest k cs (.next (a.put o.dst (.bool j.isNone)) ⟨H3.t.set l (some (.loop { L3 with state := if j.isNone then .ready else .done, pending := j })), H3.next⟩) := by
                    rintro j ⟨m0, hm0, hm1⟩
                    rw [Frame.finish_atR, ho] at hm1
                    exact ⟨e3, _, _, m, hout j, (ha.mono (hout j).le).put o.dst (.bool _), hu.mono (hout j).le, hm0.trans (.one hm1)⟩
                  cases x2 with
                  | normal =>
                    simp only at hz2; cases hz2
                    refine ⟨_, hsub _ (hsub2 _ (List.mem_singleton.2 rfl)), hnext none ⟨_, hs3.trans hend2, stepR_round_end rfl rfl (hfin none)⟩⟩
                  | ret =>
                    simp only at hz2; cases hz2
                    obtain ⟨k', hk⟩ := hend2
                    refine ⟨_, hsub _ (hsub2 _ (List.mem_singleton.2 rfl)), hnext (some .ret) ⟨_, hs3.trans hk, stepR_round_ret rfl rfl (hfin (some .ret))⟩⟩
                  | exit id =>
                    simp only at hz2; cases hz2
                    obtain ⟨k', hk, hx⟩ := hend2
                    refine ⟨_, hsub _ (hsub2 _ (List.mem_singleton.2 rfl)), hnext (some (.exit id)) ⟨_, hs3.trans hk, stepR_round_exit rfl rfl hx (hfin (some (.exit id)))⟩⟩
                  | goto t =>
                    simp only at hz2; cases hz2
                    obtain ⟨k', hk, hx⟩ := hend2
                    refine ⟨_, hsub _ (hsub2 _ (List.mem_singleton.2 rfl)), hnext (some (.goto t)) ⟨_, hs3.trans hk, stepR_round_goto rfl rfl hx (hfin (some (.goto t)))⟩⟩
                  | panic ch =>
                    simp only at hz2; cases hz2
                    obtain ⟨k', ch', hch, hk⟩ := hend2
                    have hdn : ca3.defers = [] := by
                      have := ha3.2.1; rw [hd3] at this; exact List.length_eq_zero_iff.1 this.symm
                    have hlv : ({ b'.atR ca3 k' with mode := .panicking ch' } : Frame).leaving P w3 (.panicked ch') := ⟨rfl, hdn, F, hF1⟩
                    refine ⟨_, hsub _ (hsub2 _ (List.mem_singleton.2 rfl)), e3, w3, ca, m, .inRegion ops (i :: rest) :: k, ch', oall, ha.mono oall.le, hu.mono oall.le, hch, ?_⟩
                    have h9 := step_leave_panicked (c := b.atR ca (.inRegion ops (i :: rest) :: k)) (cs := withMode fi.dfr cs m) hlv
                    rw [Frame.raise_atR] at h9
                    exact (hs3.trans hk).trans (.one h9)
                · cases hz2
            · cases hz
          · cases hz
  · cases h
end

end Go.WeftN
