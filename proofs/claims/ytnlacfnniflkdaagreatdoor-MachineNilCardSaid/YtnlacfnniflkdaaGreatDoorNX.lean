/- All code: the evaluator's step is sound; so is the evaluator. -/
import Derived.Test.YtnlacfnniflkdaaGreatDoorNW
namespace Go.WeftN

theorem Steps.shift {P : Program} {m m1 m2 : Machine} (h : step P m = .next m1) (hs : Steps P m m2) (hne : m ≠ m2) : Steps P m1 m2 := by
  obtain ⟨n, hn⟩ := hs
  cases n with
  | zero => simp only [runN] at hn; cases hn; exact absurd rfl hne
  | succ n => simp only [runN, h] at hn; exact ⟨n, hn⟩

theorem putArgs_get : ∀ (args : List Value) (i : Nat) (t : Tm) (j : Nat), (putArgs args i t).get j = if i ≤ j ∧ j < i + args.length then (t.get j).bind (fun _ => args[j - i]?) else t.get j
  | [], i, t, j => by simp [putArgs]; intro h1 h2; omega
  | v :: vs, i, t, j => by
    simp only [putArgs]
    rw [putArgs_get vs (i + 1) (t.put i v) j, Bt.get_put]
    by_cases h1 : j = i
    · subst h1
      have h2 : ¬ (j + 1 ≤ j ∧ j < j + 1 + vs.length) := by omega
      rw [if_neg h2, if_pos rfl, if_pos (by simp)]
      cases t.get j <;> simp
    · rw [if_neg h1]
      by_cases h2 : i + 1 ≤ j ∧ j < i + 1 + vs.length
      · rw [if_pos h2, if_pos (by simp; omega)]
        have : j - i = (j - (i + 1)) + 1 := by omega
        rw [this, List.getElem?_cons_succ]
      · rw [if_neg h2, if_neg (by simp; omega)]

theorem enterTm_rel {e : Emb} {n : Nat} {args args' : List Value} (h : LRel e args args') (hn : args.length ≤ n) : TmRel e (enterTm n args) (args' ++ List.replicate (n - args'.length) undef).toArray := by
  intro i
  have hl : args.length = args'.length := h.1
  have key : (enterTm n args).get i = if i < args.length then args[i]? else if i < n then some undef else none := by
    unfold enterTm
    rw [putArgs_get, Bt.get_full undef n n i (Nat.le_refl _)]
    by_cases h1 : i < args.length
    · rw [if_pos (by omega), if_pos h1, if_pos (by omega)]; simp
    · rw [if_neg (by omega), if_neg h1]
  rw [key]
  by_cases h1 : i < args.length
  · rw [if_pos h1]
    have h2 : args[i]? = some args[i] := List.getElem?_eq_getElem h1
    have h3 : args'[i]? = some (args'[i]'(hl ▸ h1)) := List.getElem?_eq_getElem (hl ▸ h1)
    rw [h2]
    refine ⟨_, ?_, h.2 i _ _ h2 h3⟩
    rw [List.getElem?_toArray, List.getElem?_append_left (hl ▸ h1), h3]
  · rw [if_neg h1]
    by_cases h2 : i < n
    · rw [if_pos h2]
      refine ⟨undef, ?_, undef_rel e⟩
      rw [List.getElem?_toArray, List.getElem?_append_right (by omega), List.getElem?_replicate, if_pos (by omega)]
    · rw [if_neg h2]
      show (args' ++ List.replicate (n - args'.length) undef).toArray[i]? = none
      rw [List.getElem?_toArray]
      exact List.getElem?_eq_none (by simp; omega)

/-- Draw regions are met. -/
def DrawOk (P : Program) (T : Tab) (R : Nat → Option (List Value)) (dr : Draw) : Prop :=
  ∀ ec, Meets P T R ec → ∀ fi id ops a H rs, dr ec fi ops a H = some rs → Met P T R (.code fi (.region id ops true) a) H rs

section
variable {P : Program} {T : Tab} {R : Nat → Option (List Value)} (hT : TabOk P T R) {ec : EC} (hec : Meets P T R ec)
include hT hec

theorem stepCall_met {f : FuncId} {args : List Value} {dfr : Bool} {up : Option Chain} {H : AHeap} {rs : List Res} (h : stepCall T ec f args dfr up H = some rs) : Met P T R (.call f args dfr up) H rs := by
  intro e w cs m args' r hb hargs hu hcs
  unfold stepCall at h
  split at h
  · cases h
  · rename_i F hF
    obtain ⟨hF1, hF2⟩ := hT.fn f F hF
    split at h
    · cases h
    · rename_i body hbody
      cases hble : Nat.ble args.length F.ntmps with
      | false => rw [hble] at h; cases h
      | true =>
       rw [hble, cond_true] at h
       split at h
       · cases h
       · rename_i rs0 hrs0
         obtain ⟨b, hb1, hb2, hb3⟩ : ∃ b : Frame, b.fn = f ∧ b.kind = (if dfr then .deferred else .normal) ∧ b.roundOf = none :=
           ⟨Frame.enter P f #[] (if dfr then .deferred else .normal), rfl, rfl, rfl⟩
         have hent : Frame.enter P f args'.toArray (if dfr then .deferred else .normal) = b.atR ⟨(args' ++ List.replicate (F.ntmps - args'.length) undef).toArray, []⟩ [.code body] := by
           simp only [Frame.enter, Frame.atR, hF1, hbody, hb1, hb2, hb3, Option.map_some, Option.getD_some, Option.bind_some]
           congr 1
           simp
         have hlen : args.length = args'.length := hargs.1
         have hfi : FiRel e ⟨f, none, dfr⟩ b := ⟨hb1, hb2, by rw [hb3]; trivial, fun _ => rfl⟩
         have ha : ActRel e ⟨enterTm F.ntmps args, [], up⟩ ⟨(args' ++ List.replicate (F.ntmps - args'.length) undef).toArray, []⟩ :=
           ⟨enterTm_rel hargs (Nat.le_of_ble_eq_true hble), rfl, fun i x y hx _ => by simp at hx⟩
         obtain ⟨x, a1, H1, hin, e1, w1, ca1, m1, o1, ha1, hu1, hend⟩ := hec _ _ _ hrs0 e w b [] cs m _ r hb hfi ha hu hcs
         obtain ⟨zs, hz, hsub⟩ := bindL_mem h hin
         rw [hent]
         have close : ∀ (mm : Option Chain) (fr : Frame), Steps P (lone (b.atR ⟨(args' ++ List.replicate (F.ntmps - args'.length) undef).toArray, []⟩ [.code body]) (withMode dfr cs m) w) (lone fr (withMode dfr cs m1) w1) →
             fr.fn = f → fr.kind = (if dfr then .deferred else .normal) → fr.tmps = ca1.tmps → fr.defers = ca1.defers → UpRel true e1 mm fr.mode → fr.mode ≠ .run → leave T ec F a1.tm a1.up a1.defers mm H1 = some zs →
             ∃ o up' H', .call o up' H' ∈ rs ∧ ∃ e' w' m' fr en, Out e H w e' H' w' ∧ UpRel dfr e' up' m' ∧
               Steps P (lone (b.atR ⟨(args' ++ List.replicate (F.ntmps - args'.length) undef).toArray, []⟩ [.code body]) (withMode dfr cs m) w) (lone fr (withMode dfr cs m') w') ∧
               fr.fn = f ∧ fr.kind = (if dfr then .deferred else .normal) ∧ fr.going P w' en ∧
               (match o with
                 | .ret v => ∃ v', en = .returned v' ∧ VRel e' v v'
                 | .pan ch => ∃ ch', en = .panicked ch' ∧ ChRel e' ch ch') := by
           intro mm fr hs hfn hk ht hd hmm hne hl
           obtain ⟨o, up', H', hin2, e2, w2, m2, fr2, en, o2, h2, h3, h4⟩ := leave_met hT hec hF1 a1.defers hl (fr := fr) (cs := cs) (mu := m1) o1.rep (hb.out o1) hfn hk (by rw [ht]; exact ha1.1) (by rw [hd]; exact ha1.2) hmm hne hu1
           exact ⟨o, up', H', hsub _ hin2, e2, w2, m2, fr2, en, o1.trans o2 r, h2, hs.trans h3, h4⟩
         cases x with
         | normal =>
           simp only at hz
           exact close none _ (Steps.trans hend (.one (stepR_end hb3))) hb1 hb2 rfl rfl (fun _ => rfl) (by simp) hz
         | ret =>
           simp only at hz
           obtain ⟨k', hk⟩ := hend
           exact close none _ (hk.trans (.one (stepR_ret hb3))) hb1 hb2 rfl rfl (fun _ => rfl) (by simp) hz
         | panic ch =>
           simp only at hz
           obtain ⟨k', ch', hch, hk⟩ := hend
           exact close (some ch) _ hk hb1 hb2 rfl rfl (fun _ => ⟨ch', rfl, hch⟩) (by simp) hz
         | exit id => simp only at hz; cases hz
         | goto l => simp only at hz; cases hz

theorem stepCode_met {dr : Draw} (hdr : DrawOk P T R dr) {fi : FI} {c : Code} {a : AAct} {H : AHeap} {rs : List Res} (h : stepCode T dr ec fi c a H = some rs) : Met P T R (.code fi c a) H rs := by
  intro e w b k cs m ca r hb hfi ha hu hcs
  show CodeMet P fi e H w b _ k cs rs
  cases c with
  | skip =>
    simp only [stepCode] at h; cases h
    exact CodeMet.one r ha hu (.one stepR_skip)
  | label l =>
    simp only [stepCode] at h; cases h
    exact CodeMet.one r ha hu (.one stepR_label)
  | seq x y =>
    simp only [stepCode] at h
    split at h
    · cases h
    · rename_i rs0 hrs0
      obtain ⟨x', a1, H1, hin, e1, w1, ca1, m1, o1, ha1, hu1, hend⟩ := hec _ _ _ hrs0 e w b (.code y :: k) cs m ca r hb hfi ha hu hcs
      obtain ⟨zs, hz, hsub⟩ := bindL_mem h hin
      have hend := Ends.of_steps (.one stepR_seq) hend
      by_cases hx : x' = .normal
      · subst hx
        simp only at hz
        exact CodeMet.of r o1 hend hsub (hec _ _ _ hz e1 w1 b k cs m1 ca1 o1.rep (hb.out o1) (hfi.mono o1.le) ha1 hu1 hcs)
      · have : zs = [.code x' a1 H1] := by cases x' <;> simp only at hz <;> first | (cases hz; rfl) | exact absurd rfl hx
        subst this
        exact ⟨_, _, _, hsub _ (List.mem_singleton.2 rfl), e1, w1, ca1, m1, o1, ha1, hu1, hend.pass hx (fun id => by simp [exitTo]) (fun l => by simp [gotoIn])⟩
  | cond c x y =>
    simp only [stepCode] at h
    have hρ := aev_rel hb ha.1 c
    have key : ∀ t : Bool, aev T.E a.tm c = .bool t → ec (.code fi (if t then x else y) a) H = some rs → CodeMet P fi e H w b (lone (b.atR ca (.code (.cond c x y) :: k)) (withMode fi.dfr cs m) w) k cs rs := by
      intro t ht h
      rw [ht] at hρ
      have hc : ca.eval c = .bool t := by generalize ca.eval c = z at hρ; cases hρ; rfl
      exact CodeMet.of r (Out.refl r) (.one (stepR_cond hc)) (fun z hz => hz) (hec _ _ _ h e w b k cs m ca r hb hfi ha hu hcs)
    split at h
    · rename_i ht; exact key true ht h
    · rename_i ht; exact key false ht h
    · cases h
  | block id x =>
    simp only [stepCode] at h
    split at h
    · cases h
    · rename_i rs0 hrs0
      obtain ⟨x', a1, H1, hin, e1, w1, ca1, m1, o1, ha1, hu1, hend⟩ := hec _ _ _ hrs0 e w b (.inBlock id :: k) cs m ca r hb hfi ha hu hcs
      obtain ⟨zs, hz, hsub⟩ := bindL_mem h hin
      have hend := Ends.of_steps (.one stepR_block) hend
      cases x' with
      | normal =>
        simp only at hz; cases hz
        exact ⟨_, _, _, hsub _ (List.mem_singleton.2 rfl), e1, w1, ca1, m1, o1, ha1, hu1, Steps.trans hend (.one stepR_inBlock)⟩
      | exit j =>
        simp only at hz; cases hz
        refine ⟨_, _, _, hsub _ (List.mem_singleton.2 rfl), e1, w1, ca1, m1, o1, ha1, hu1, ?_⟩
        obtain ⟨k', hk, hx⟩ := hend
        cases hj : Nat.beq j id with
        | true =>
          have : j = id := Nat.eq_of_beq_eq_true hj
          subst this
          exact hk.trans (.one (stepR_exit (hx.trans (by simp [exitTo]))))
        | false =>
          have hne : ¬ id = j := fun h => by subst h; rw [Nat.beq_refl] at hj; cases hj
          exact ⟨k', hk, hx.trans (by simp [exitTo, hne])⟩
      | goto l =>
        simp only at hz; cases hz
        obtain ⟨k', hk, hx⟩ := hend
        exact ⟨_, _, _, hsub _ (List.mem_singleton.2 rfl), e1, w1, ca1, m1, o1, ha1, hu1, k', hk, hx.trans (by simp [gotoIn])⟩
      | ret =>
        simp only at hz; cases hz
        exact ⟨_, _, _, hsub _ (List.mem_singleton.2 rfl), e1, w1, ca1, m1, o1, ha1, hu1, hend⟩
      | panic ch =>
        simp only at hz; cases hz
        exact ⟨_, _, _, hsub _ (List.mem_singleton.2 rfl), e1, w1, ca1, m1, o1, ha1, hu1, hend⟩
  | loop x =>
    simp only [stepCode] at h
    split at h
    · cases h
    · rename_i rs0 hrs0
      obtain ⟨x', a1, H1, hin, e1, w1, ca1, m1, o1, ha1, hu1, hend⟩ := hec _ _ _ hrs0 e w b (.inLoop x :: k) cs m ca r hb hfi ha hu hcs
      obtain ⟨zs, hz, hsub⟩ := bindL_mem h hin
      have hend := Ends.of_steps (.one stepR_loop) hend
      by_cases hx : x' = .normal
      · subst hx
        simp only at hz
        obtain ⟨x2, a2, H2, hin2, e2, w2, ca2, m2, o2, ha2, hu2, hend2⟩ := hec _ _ _ hz e1 w1 b k cs m1 ca1 o1.rep (hb.out o1) (hfi.mono o1.le) ha1 hu1 hcs
        refine ⟨x2, a2, H2, hsub _ hin2, e2, w2, ca2, m2, o1.trans o2 r, ha2, hu2, ?_⟩
        have hs1 : Steps P (lone (b.atR ca (.code (.loop x) :: k)) (withMode fi.dfr cs m) w) (lone (b.atR ca1 (.inLoop x :: k)) (withMode fi.dfr cs m1) w1) := hend
        have hsh : ∀ {m2 : Machine}, Steps P (lone (b.atR ca1 (.code (.loop x) :: k)) (withMode fi.dfr cs m1) w1) m2 → lone (b.atR ca1 (.code (.loop x) :: k)) (withMode fi.dfr cs m1) w1 ≠ m2 →
            Steps P (lone (b.atR ca (.code (.loop x) :: k)) (withMode fi.dfr cs m) w) m2 := fun hs hne =>
          (hs1.trans (.one stepR_inLoop)).trans (Steps.shift stepR_loop hs hne)
        have hfr : ∀ {fr fr' : Frame} {cs cs' : List Frame} {w w' : World}, lone fr cs w = lone fr' cs' w' → fr = fr' := by
          intro fr fr' cs cs' w w' h
          have := congrArg (fun m : Machine => m.gs.toList.map (·.frame)) h
          simpa [lone] using this
        cases x2 with
        | normal => exact hsh hend2 fun he => by have := congrArg (·.todo.length) (hfr he); simp [Frame.atR] at this
        | exit id =>
          obtain ⟨k', hk, hx⟩ := hend2
          exact ⟨k', hsh hk fun he => by have := congrArg (·.todo.head?) (hfr he); simp [Frame.atR] at this, hx⟩
        | goto l =>
          obtain ⟨k', hk, hx⟩ := hend2
          exact ⟨k', hsh hk fun he => by have := congrArg (·.todo.head?) (hfr he); simp [Frame.atR] at this, hx⟩
        | ret =>
          obtain ⟨k', hk⟩ := hend2
          exact ⟨k', hsh hk fun he => by have := congrArg (·.todo.head?) (hfr he); simp [Frame.atR] at this⟩
        | panic ch =>
          obtain ⟨k', ch', hch, hk⟩ := hend2
          exact ⟨k', ch', hch, hsh hk fun he => by have := congrArg (·.mode) (hfr he); simp [Frame.atR] at this⟩
      · have : zs = [.code x' a1 H1] := by cases x' <;> simp only at hz <;> first | (cases hz; rfl) | exact absurd rfl hx
        subst this
        exact ⟨_, _, _, hsub _ (List.mem_singleton.2 rfl), e1, w1, ca1, m1, o1, ha1, hu1, hend.pass hx (fun id => by simp [exitTo]) (fun l => by simp [gotoIn])⟩
  | scope x =>
    simp only [stepCode] at h
    have hst : step P (lone (b.atR ca (.code (.scope x) :: k)) (withMode fi.dfr cs m) w) = .next (lone (b.atR ca (.code x :: .inScope x :: k)) (withMode fi.dfr cs m) w) :=
      step_lone_go (by simp [stepG, stepG.exec, Frame.atR])
    exact CodeMet.of r (Out.refl r) (.one hst) (fun z hz => hz) (scopeRun_met hec hcs 1000 h r hb hfi ha hu)
  | exit id =>
    simp only [stepCode] at h; cases h
    exact CodeMet.one r ha hu ⟨k, Steps.refl _ _, rfl⟩
  | goto l =>
    simp only [stepCode] at h; cases h
    exact CodeMet.one r ha hu ⟨k, Steps.refl _ _, rfl⟩
  | ret =>
    simp only [stepCode] at h; cases h
    exact CodeMet.one r ha hu ⟨k, Steps.refl _ _⟩
  | region id ops draw =>
    cases draw with
    | true =>
      simp only [stepCode, cond_true] at h
      exact hdr ec hec fi id ops a H rs h e w b k cs m ca r hb hfi ha hu hcs
    | false =>
      simp only [stepCode, cond_false] at h
      have := seqOps_met hT hec (b := b) (k := k) (m := m) (e := e) (w := w) (ca := ca) hcs ops.toList 0 rfl h r hb hfi ha hu
      refine CodeMet.of r (Out.refl r) (.one ?_) (fun z hz => hz) this
      rw [stepR_region]
      simp [List.range_eq_range']
  | rangeFunc f ps assign body =>
    simp only [stepCode] at h
    exact rangeRun_met hT hec hcs h r hb hfi ha hu
  | refuse s => simp [stepCode] at h

theorem stepR_met {dr : Draw} (hdr : DrawOk P T R dr) : Meets P T R (stepR T dr ec) := by
  intro r H rs h
  cases r with
  | code fi c a => exact stepCode_met hT hec hdr h
  | call f args dfr up => exact stepCall_met hT hec h
end

theorem ev_met {P : Program} {T : Tab} {R : Nat → Option (List Value)} (hT : TabOk P T R) {dr : Draw} (hdr : DrawOk P T R dr) : ∀ n, Meets P T R (ev T dr n)
  | 0 => fun r H rs h => by simp [ev] at h
  | n + 1 => stepR_met hT (ev_met hT hdr n) hdr

end Go.WeftN
