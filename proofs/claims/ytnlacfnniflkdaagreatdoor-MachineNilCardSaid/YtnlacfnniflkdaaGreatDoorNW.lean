/- Leaving a frame; calls; all code: the evaluator's step is sound. -/
import Derived.Test.YtnlacfnniflkdaaGreatDoorNV
namespace Go.WeftN

/-- An object is forgotten, and its block turned. -/
theorem Out.drop {e : Emb} {H : AHeap} {w : World} (r : Rep e H w) {id : Nat} {o : AObj} {l : Loc} (hi : H.t.get id = some o) (hw : o.writable = true) (hl : e id = some l) (w' : World)
    (hs : w'.heap.size = w.heap.size) (hk : ∀ b, b ≠ l.blk → w'.heap[b]? = w.heap[b]?) (hos : w'.os = w.os) (hout : w'.output = w.output) (ht : w'.tape = w.tape) : Out e H w e ⟨H.t.set id none, H.next⟩ w' := by
  have hget : ∀ j x, (H.t.set id none).get j = some x → j ≠ id ∧ H.t.get j = some x := by
    intro j x h
    rw [Tr.get_set] at h
    split at h
    · cases h
    · rename_i hj; exact ⟨hj, h⟩
  refine { le := Emb.le_refl e, rep := ?_, next := Nat.le_refl _, ids := fun j x h => .inl ⟨x, (hget j x h).2, fun z => z⟩, rom := ?_, size := by omega, keep := ?_, new := ?_, still := fun _ _ h => h, os := hos, output := hout, tape := ht }
  · refine { obj := ?_, inj := ?_, lt := ?_, fresh := r.fresh }
    · intro j x h
      obtain ⟨hj, h⟩ := hget j x h
      obtain ⟨lj, hlj, hr⟩ := r.obj j x h
      exact ⟨lj, hlj, hr.keep (Emb.le_refl _) (hk _ fun hb => hj (r.inj j id x o lj l h hi hlj hl hb))⟩
    · intro j k oj ok2 lj lk hj hk2 hej hek hb
      exact r.inj j k oj ok2 lj lk (hget _ _ hj).2 (hget _ _ hk2).2 hej hek hb
    · intro j x h; exact r.lt j x (hget j x h).2
  · intro j cs h
    simp only
    rw [Tr.get_set, if_neg]
    · exact h
    · intro hj; subst hj; rw [hi] at h; cases h; simp [AObj.writable] at hw
  · intro b _ hn; exact hk b fun hbl => hn id o l hi hw hl hbl.symm
  · intro j lj h h'; rw [h] at h'; cases h'

def resF (ts : Array Value) : ResultVar → Sem Value
  | .tmp t => pure (ts.getD t undef)
  | .cell a t => do loadVar t (← asAddr (ts.getD a undef))

theorem results_eq (F : Func) (ts : Array Value) : results F ts = (do let vs ← F.results.mapM (resF ts); pure (if h : vs.size = 1 then vs[0] else .tuple vs)) := by
  unfold results
  have : (fun x : ResultVar => (match x with
      | .tmp t => pure (ts.getD t undef)
      | .cell a t => do loadVar t (← asAddr (ts.getD a undef)) : Sem Value)) = resF ts := by
    funext x; cases x <;> rfl
  rw [← this]
  rfl

theorem resultV_ok {P : Program} {E : Env} (hE : EnvOk P E) {e : Emb} {H : AHeap} {w : World} (r : Rep e H w) {tm : Tm} {ts : Array Value} (ht : TmRel e tm ts) {x : ResultVar} {v : Value} (h : resultV E tm H.t x = some v) :
    ∃ v', (resF ts x).run P w = .ok v' w ∧ VRel e v v' := by
  cases x with
  | tmp t =>
    simp only [resultV] at h
    obtain ⟨v', hv', hr⟩ := ht.get h
    exact ⟨v', by simp [resF, Array.getD_eq_getD_getElem?, hv'], hr⟩
  | cell a t =>
    simp only [resultV] at h
    split at h
    · rename_i p hp
      obtain ⟨p', hp', hr⟩ := ht.get hp
      unfold loadV at h
      split at h
      · rename_i id off i hi
        cases hr with
        | ptr hl =>
          obtain ⟨v', h1, h2⟩ := run_loadVar hE r hi hl h
          exact ⟨v', by simp [resF, Array.getD_eq_getD_getElem?, hp', asAddr, h1], h2⟩
      · cases h
    · cases h

theorem resultsV_ok {P : Program} {E : Env} (hE : EnvOk P E) {e : Emb} {H : AHeap} {w : World} (r : Rep e H w) {tm : Tm} {ts : Array Value} (ht : TmRel e tm ts) : ∀ {xs : List ResultVar} {vs : List Value}, resultsV E tm H.t xs = some vs →
    ∃ vs', (xs.mapM (resF ts)).run P w = .ok vs' w ∧ LRel e vs vs'
  | [], vs, h => by simp only [resultsV] at h; cases h; exact ⟨[], by simp, .nil e⟩
  | x :: xs, vs, h => by
    simp only [resultsV] at h
    split at h
    · cases h
    · rename_i v hv
      split at h
      · cases h
      · rename_i us hus; cases h
        obtain ⟨v', h1, h2⟩ := resultV_ok (P := P) hE r ht hv
        obtain ⟨us', h3, h4⟩ := resultsV_ok hE r ht hus
        refine ⟨v' :: us', ?_, .cons h2 h4⟩
        rw [List.mapM_cons]
        simp only [Sem.run_bind, h1, Result.andThen_ok, h3, Sem.run_pure]

theorem results_ok {P : Program} {E : Env} (hE : EnvOk P E) {e : Emb} {H : AHeap} {w : World} (r : Rep e H w) {tm : Tm} {ts : Array Value} (ht : TmRel e tm ts) {F : Func} {vs : List Value} (h : resultsV E tm H.t F.results.toList = some vs) :
    ∃ v', (results F ts).run P w = .ok v' w ∧ VRel e (tupleV vs) v' := by
  obtain ⟨vs', h1, h2⟩ := resultsV_ok (P := P) hE r ht h
  refine ⟨tupleV vs', ?_, ?_⟩
  · rw [results_eq]
    have e1 : F.results = F.results.toList.toArray := by simp
    rw [e1, List.mapM_toArray]
    simp only [Sem.run_bind, Sem.run_map, h1, Result.andThen_ok, Sem.run_pure]
    congr 1
    split
    · rename_i hs
      obtain ⟨v, hv⟩ := List.length_eq_one_iff.1 (by simpa using hs)
      subst hv; rfl
    · rename_i hs
      unfold tupleV
      split
      · simp at hs
      · rfl
  · unfold tupleV
    cases vs with
    | nil => rw [h2.nil_inv]; exact .tuple rfl (fun i v v' hv => by simp at hv)
    | cons v us =>
      obtain ⟨v', us', rfl, hv, hu⟩ := h2.uncons
      cases us with
      | nil => rw [hu.nil_inv]; exact hv
      | cons u ws =>
        obtain ⟨u', ws', rfl, hu1, hw1⟩ := hu.uncons
        have := (LRel.cons hv (LRel.cons hu1 hw1)).toA
        exact .tuple this.1 this.2

theorem drop_noexit : ∀ (l : List PanicEntry), (∀ y ∈ l, y.goexit = false) → l.dropWhile (!·.goexit) = []
  | [], _ => rfl
  | y :: l, h => by
    rw [List.dropWhile_cons, h y (by simp)]
    simp only [Bool.not_false, if_true]
    exact drop_noexit l fun z hz => h z (by simp [hz])

theorem ChRel.noexit {e : Emb} {a : Chain} {b : List PanicEntry} (r : ChRel e a b) : ∀ y ∈ b, y.goexit = false := by
  intro y hy
  obtain ⟨i, hi, hyi⟩ := List.getElem_of_mem hy
  have hia : i < a.length := by rw [r.1]; exact hi
  exact (r.2 i a[i] y (by simp) (by simp [← hyi])).2.2

theorem ChRel.append {e : Emb} {a c : Chain} {b d : List PanicEntry} (r : ChRel e a b) (s : ChRel e c d) : ChRel e (a ++ c) (b ++ d) := by
  refine ⟨by simp [r.1, s.1], fun i x y hx hy => ?_⟩
  by_cases hi : i < a.length
  · rw [List.getElem?_append_left hi] at hx
    rw [List.getElem?_append_left (by rw [← r.1]; exact hi)] at hy
    exact r.2 i x y hx hy
  · rw [List.getElem?_append_right (by omega)] at hx
    rw [List.getElem?_append_right (by have := r.1; omega), ← r.1] at hy
    exact s.2 _ x y hx hy

theorem settle_rel {e : Emb} {m : Option Chain} {fm : FrameMode} (h : UpRel true e m fm) : UpRel true e (settleV m) (settle fm) := by
  intro _
  have h := h rfl
  cases m with
  | none => subst h; rfl
  | some ch =>
    obtain ⟨ch', rfl, hch⟩ := h
    cases ch with
    | nil =>
      have : ch' = [] := by have := hch.1; exact List.length_eq_zero_iff.1 (by simpa using this.symm)
      subst this
      exact ⟨[], rfl, hch⟩
    | cons p older =>
      cases ch' with
      | nil => have := hch.1; simp at this
      | cons p' older' =>
        obtain ⟨g1, g2, g3⟩ := hch.2 0 p p' rfl rfl
        have hne := hch.noexit
        simp only [settleV]
        cases hr : p.recovered with
        | true =>
          rw [hr] at g2
          obtain ⟨pv, pr, pg⟩ := p'
          simp only at g2; subst g2
          simp only [cond_true, settle]
          rw [drop_noexit older' (fun y hy => hne y (by simp [hy]))]
        | false =>
          rw [hr] at g2
          obtain ⟨pv, pr, pg⟩ := p'
          simp only at g2; subst g2
          exact ⟨_, rfl, hch⟩

theorem raised_rel {e : Emb} {m : Option Chain} {fm : FrameMode} (h : UpRel true e m fm) {ch : Chain} {ch' : List PanicEntry} (hc : ChRel e ch ch') : UpRel true e (raisedV m ch) (raised fm ch') := by
  intro _
  have h := h rfl
  cases m with
  | none => subst h; exact ⟨ch', rfl, hc⟩
  | some old =>
    obtain ⟨old', rfl, ho⟩ := h
    exact ⟨ch' ++ old', rfl, hc.append ho⟩

section
variable {P : Program} {T : Tab} {R : Nat → Option (List Value)} (hT : TabOk P T R) {ec : EC} (hec : Meets P T R ec)
include hT hec

theorem leave_met {F : Func} {f : FuncId} (hF : P.funcs[f]? = some F) {dfr : Bool} {cs : List Frame} {tm : Tm} {up : Option Chain} : ∀ (ds : List ADef) {m : Option Chain} {H : AHeap} {rs : List Res}, leave T ec F tm up ds m H = some rs →
    ∀ {e : Emb} {w : World} {fr : Frame} {mu : FrameMode}, Rep e H w → Base T R e H → fr.fn = f → fr.kind = (if dfr then .deferred else .normal) → TmRel e tm fr.tmps → DRel e ds fr.defers → UpRel true e m fr.mode → fr.mode ≠ .run → UpRel dfr e up mu →
    ∃ o up' H', .call o up' H' ∈ rs ∧ ∃ e' w' m' fr' en, Out e H w e' H' w' ∧ UpRel dfr e' up' m' ∧
        Steps P (lone fr (withMode dfr cs mu) w) (lone fr' (withMode dfr cs m') w') ∧
        fr'.fn = f ∧ fr'.kind = (if dfr then .deferred else .normal) ∧ fr'.going P w' en ∧
        (match o with
          | .ret v => ∃ v', en = .returned v' ∧ VRel e' v v'
          | .pan ch => ∃ ch', en = .panicked ch' ∧ ChRel e' ch ch')
  | [], m, H, rs, h, e, w, fr, mu, r, hb, hfn, hkind, ht, hd, hm, hrun, hu => by
    have hdn : fr.defers = [] := List.length_eq_zero_iff.1 (by simpa using hd.1.symm)
    have hm := hm rfl
    cases m with
    | none =>
      simp only [leave] at h
      split at h
      · rename_i vs hvs; cases h
        obtain ⟨v', h1, h2⟩ := results_ok (P := P) hT.env r ht hvs
        exact ⟨_, _, _, List.mem_singleton.2 rfl, e, w, mu, fr, .returned v', Out.refl r, hu, Steps.refl _ _, hfn, hkind, ⟨hm, hdn, F, by rw [hfn]; exact hF, h1⟩, v', rfl, h2⟩
      · cases h
    | some ch =>
      simp only [leave] at h; cases h
      obtain ⟨ch', hm, hch⟩ := hm
      exact ⟨_, _, _, List.mem_singleton.2 rfl, e, w, mu, fr, .panicked ch', Out.refl r, hu, Steps.refl _ _, hfn, hkind, ⟨hm, hdn, F, by rw [hfn]; exact hF⟩, ch', rfl, hch⟩
  | .mark id :: ds, m, H, rs, h, e, w, fr, mu, r, hb, hfn, hkind, ht, hd, hm, hrun, hu => by
    simp only [leave] at h
    split at h
    · rename_i ho
      obtain ⟨d, ds', hds⟩ : ∃ d ds', fr.defers = d :: ds' := by
        cases hx : fr.defers with
        | nil => have := hd.1; rw [hx] at this; simp at this
        | cons d ds' => exact ⟨d, ds', rfl⟩
      rw [hds] at hd
      obtain ⟨l, hl, hdd⟩ := hd.2 0 _ _ rfl rfl
      subst hdd
      have hd' : DRel e ds ds' := ⟨by have := hd.1; simpa using this, fun j x y hx hy => hd.2 (j + 1) x y (by simpa using hx) (by simpa using hy)⟩
      obtain ⟨l2, hl2, hrel⟩ := r.obj id _ ho
      rw [hl] at hl2; cases hl2
      have hob : w.heap[l.blk]? = some (.deferred (some [])) := hrel
      have htake : (Instr.takeDeferred l.blk).run P w = .ok [] (World.putObj' w l.blk (.deferred none)) := by
        simp [Instr.takeDeferred, getObj, setObj, Sem.run, hob, World.putObj']
      have hst : step P (lone fr (withMode dfr cs mu) w) = .next (lone { fr with defers := ds' } (withMode dfr cs mu) (World.putObj' w l.blk (.deferred none))) :=
        step_lone_go (by
          cases hmode : fr.mode with
          | run => exact absurd hmode hrun
          | returning => simp [stepG, hmode, unwind, hds, Sem.runT_eq, htake]
          | panicking c => simp [stepG, hmode, unwind, hds, Sem.runT_eq, htake])
      have o1 := Out.drop r ho rfl hl (World.putObj' w l.blk (.deferred none)) putObj'_size (fun b hb => putObj'_other hb) rfl rfl rfl
      obtain ⟨o, up', H', hin, e', w', m', fr', en, o2, h2, h3, h4⟩ := leave_met hF ds h (fr := { fr with defers := ds' }) (mu := mu) o1.rep (hb.out o1) hfn hkind ht hd' hm hrun hu
      exact ⟨o, up', H', hin, e', w', m', fr', en, o1.trans o2 r, h2, .head hst h3, h4⟩
    · cases h
  | .fn fv args :: ds, m, H, rs, h, e, w, fr, mu, r, hb, hfn, hkind, ht, hd, hm, hrun, hu => by
    simp only [leave] at h
    split at h
    · rename_i g first cap
      split at h
      · rename_i G hor hex hG
        obtain ⟨hG1, hG2⟩ := hT.fn g G hG
        cases hbd : G.body.isSome with
        | false => rw [hbd] at h; cases h
        | true =>
         rw [hbd, cond_true] at h
         split at h
         · cases h
         · rename_i rs0 hrs0
           obtain ⟨d, ds', hds⟩ : ∃ d ds', fr.defers = d :: ds' := by
             cases hx : fr.defers with
             | nil => have := hd.1; rw [hx] at this; simp at this
             | cons d ds' => exact ⟨d, ds', rfl⟩
           rw [hds] at hd
           obtain ⟨fn, first2, cap2, fn', first', cap', args', h0, h1, h2, h3, h4, hdd⟩ := hd.2 0 _ _ rfl rfl
           cases h0
           cases h1
           have hd' : DRel e ds ds' := ⟨by have := hd.1; simpa using this, fun j x y hx hy => hd.2 (j + 1) x y (by simpa using hx) (by simpa using hy)⟩
           have hall : LRel e (first.toList ++ args ++ cap.toList) (first'.toList ++ args' ++ cap'.toList) := (h2.toL.append h4).append h3.toL
           have hinv : (invoke d.target d.args).run P w = .ok (.enter g (first'.toList ++ args' ++ cap'.toList).toArray) w := by
             rw [hdd]
             have e1 : (first' ++ args'.toArray ++ cap' : Array Value) = (first'.toList ++ args' ++ cap'.toList).toArray := by apply Array.ext'; simp
             show (callFunc g (first' ++ args'.toArray ++ cap')).run P w = _
             rw [e1]
             exact run_callFunc hG1 hG2 hbd _ w
           have hst := step_defer (P := P) (cs := withMode dfr cs mu) hrun hds (by rw [hdd]) hinv
           obtain ⟨out, up1, H1, hin, e1, w1, m1, fr1, en, o1, hu1, hst1, hfn1, hk1, hgo1, hout1⟩ := hec _ _ _ hrs0 e w ({ fr with defers := ds' } :: withMode dfr cs mu) fr.mode _ r hb hall hm (fun _ => by simp)
           obtain ⟨zs, hz, hsub⟩ := bindL_mem h hin
           have hst2 : Steps P (lone fr (withMode dfr cs mu) w) (lone fr1 ({ fr with defers := ds', mode := m1 } :: withMode dfr cs mu) w1) := .head hst hst1
           have hclose : ∀ (mm : Option Chain) (fm : FrameMode), UpRel true e1 mm fm → fm ≠ .run → leave T ec F tm up ds mm H1 = some zs →
               Steps P (lone fr (withMode dfr cs mu) w) (lone { fr with defers := ds', mode := fm } (withMode dfr cs mu) w1) →
               ∃ o up' H', Res.call o up' H' ∈ rs ∧ ∃ e' w' m' fr' en, Out e H w e' H' w' ∧ UpRel dfr e' up' m' ∧
                 Steps P (lone fr (withMode dfr cs mu) w) (lone fr' (withMode dfr cs m') w') ∧
                 fr'.fn = f ∧ fr'.kind = (if dfr then .deferred else .normal) ∧ fr'.going P w' en ∧
                 (match o with
                   | .ret v => ∃ v', en = .returned v' ∧ VRel e' v v'
                   | .pan ch => ∃ ch', en = .panicked ch' ∧ ChRel e' ch ch') := by
             intro mm fm hmm hne hl hs
             obtain ⟨o, up', H', hin2, e', w', m', fr', en, o2, h2, h3, h4⟩ := leave_met hF ds hl (fr := { fr with defers := ds', mode := fm }) (cs := cs) (mu := mu) o1.rep (hb.out o1) hfn hkind (ht.mono o1.le) ((ActRel.mono o1.le (a := ⟨tm, ds, none⟩) (ca := ⟨fr.tmps, ds'⟩) ⟨ht, hd'⟩).2) hmm hne (hu.mono o1.le)
             exact ⟨o, up', H', hsub _ hin2, e', w', m', fr', en, o1.trans o2 r, h2, hs.trans h3, h4⟩
           cases out with
           | ret v =>
             simp only at hz
             obtain ⟨v', rfl, hv⟩ := hout1
             have h9 := step_going_returned (c := { fr with defers := ds', mode := m1 }) (cs := withMode dfr cs mu) hk1 hgo1
             have hsr := settle_rel hu1
             refine hclose (settleV up1) (settle m1) hsr ?_ hz (hst2.trans (.one h9))
             intro hx
             have := hsr rfl
             rw [hx] at this
             cases hsv : settleV up1 with
             | none => rw [hsv] at this; cases this
             | some c => rw [hsv] at this; obtain ⟨c', h1, _⟩ := this; cases h1
           | pan ch =>
             simp only at hz
             obtain ⟨ch', rfl, hch⟩ := hout1
             have h9 := step_going_panicked (c := { fr with defers := ds', mode := m1 }) (cs := withMode dfr cs mu) hgo1
             refine hclose (raisedV up1 ch) (raised m1 ch') (raised_rel hu1 hch) ?_ hz (hst2.trans (.one h9))
             unfold raised
             split <;> simp
      · cases h
    · cases h
end

end Go.WeftN
