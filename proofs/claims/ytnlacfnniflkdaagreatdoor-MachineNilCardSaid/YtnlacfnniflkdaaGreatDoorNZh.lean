/- A drawn region: any operation that is ready may run next. -/
import Derived.Test.YtnlacfnniflkdaaGreatDoorNZg
namespace Go.WeftN

theorem kind_cases {T : Tab} {ec : EC} {fi : FI} {ops : Array Oper} {a0 : AAct} {base : Nat} {o : Oper} {k : Nat} {res : List PE} {st : St} {pre : Nat} {x : PE} {n : Option St} (h : Kind T ec fi ops a0 base o k res st pre x n) :
    (wantedD ops a0 res (o.looksAt ops) o = some false ∧ x.v = undef ∧ x.ob = none ∧ x.ch = false ∧ n = none) ∨
    (∃ v, wantedD ops a0 res (o.looksAt ops) o = some true ∧ effOf T.E (rhoD T.E a0 res (o.looksAt ops)) o = some (.pure v) ∧ x.v = v ∧ x.ob = none ∧ x.ch = false ∧ n = none) ∨
    (∃ f, wantedD ops a0 res (o.looksAt ops) o = some true ∧ effOf T.E (rhoD T.E a0 res (o.looksAt ops)) o = some (.read f) ∧ x.rf = some f ∧ x.ob = none ∧ x.ch = false ∧ n = none) ∨
    (∃ m, wantedD ops a0 res (o.looksAt ops) o = some true ∧ effOf T.E (rhoD T.E a0 res (o.looksAt ops)) o = some (.alloc m) ∧ x.v = m.val (base + k) ∧ x.ob = some m.obj ∧ x.ch = false ∧ n = none) ∨
    (∃ a1 H1, wantedD ops a0 res (o.looksAt ops) o = some true ∧
      opRunG T ec fi (rhoD T.E a0 res (o.looksAt ops)) o st.up ⟨addP base pre st.mg res st.H.t, st.H.next⟩ k0 kp0 = some [.next a1 H1] ∧
      x.v = (a1.tm.get 0).getD undef ∧ x.ob = none ∧ x.ch = true ∧ n = some ⟨addDefs a1.defers st.ds, a1.up, H1, Nat.lor st.mg pre⟩) := by
  cases h with
  | skip hw => exact .inl ⟨hw, rfl, rfl, rfl, rfl⟩
  | pure v hw he => exact .inr (.inl ⟨v, hw, he, rfl, rfl, rfl, rfl⟩)
  | read f v hw he hf => exact .inr (.inr (.inl ⟨f, hw, he, rfl, rfl, rfl, rfl⟩))
  | alloc m hw he => exact .inr (.inr (.inr (.inl ⟨m, hw, he, rfl, rfl, rfl, rfl⟩)))
  | chain a1 H1 hw hr => exact .inr (.inr (.inr (.inr ⟨a1, H1, hw, hr, rfl, rfl, rfl, rfl⟩)))

section
variable {T : Tab} {ec : EC} {fi : FI} {ops : Array Oper} {e0 : Emb} {H0 : AHeap} {w0 : World} {a0 : AAct} {X : Nat → PE} {ST : Nat → St} {c : Nat → Nat}

theorem Inv.tmrel {S : Nat → Bool} {p : Nat} {e : Emb} {w : World} {ca : Act} {m : FrameMode} (inv : Inv fi e0 H0 w0 a0 ops.size X ST c S p e w ca m) : TmRel e (putsS S X a0.tm ops.size) ca.tmps := by
  intro t
  have h := inv.tms t
  rw [putsS_get]
  cases hg : a0.tm.get t with
  | none => rw [hg] at h; exact h
  | some v0 => rw [hg] at h; exact h

theorem put_tmrel {e : Emb} {tm : Tm} {ca : Act} (h : TmRel e tm ca.tmps) (d : Option Tmp) {v v' : Value} (hv : VRel e v v') : TmRel e (putT tm d v) (ca.put d v').tmps := by
  cases d with
  | none => exact h
  | some d => exact h.put d hv
theorem put_defers (ca : Act) (d : Option Tmp) (v : Value) : (ca.put d v).defers = ca.defers := by cases d <;> rfl

theorem addS_of {S : Nat → Bool} {k j : Nat} (h : S j = true) : addS S k j = true := by simp [addS, h]

variable (hF : ∀ k o, ops[k]? = some o → KFact T ec fi ops a0 H0.next X ST c k o)
include hF

/-- Operations that turn and make nothing. -/
theorem Inv.quiet (h0 : c 0 = 0) {S : Nat → Bool} {p : Nat} {e : Emb} {w : World} {ca : Act} {m : FrameMode} (inv : Inv fi e0 H0 w0 a0 ops.size X ST c S p e w ca m) {k : Nat} {o : Oper} (ho : ops[k]? = some o) (hk : S k = false) (hpre : ∀ j, bit (X k).pre j = true → S j = true)
    (hob : (X k).ob = none) (hch : (X k).ch = false) {v' : Value} (hv : VRel e (X k).v v') : Inv fi e0 H0 w0 a0 ops.size X ST c (addS S k) p e w (ca.put o.dst v') m := by
  obtain ⟨Hs, hout, hn, hin, hrest⟩ := inv.heap
  refine Inv.next hF h0 inv ho hk hpre ?_ ?_ inv.up (.inl ⟨hch, rfl⟩) ⟨Hs, hout, hn, ?_, ?_⟩ inv.res (fun j hj => addS_of (inv.mg j hj)) ?_ inv.nxt
  · exact put_tmrel inv.tmrel o.dst hv
  · rw [put_defers]; exact inv.defs
  · intro j ob hs hj hm
    rcases addS_true hs with rfl | hs
    · rw [hob] at hj; cases hj
    · exact hin j ob hs hj hm
  · intro id hid
    exact hrest id fun j hs => hid j (addS_of hs)
  · intro j hj hjo hs
    refine inv.unm j hj hjo ?_
    cases hsj : S j with
    | false => rfl
    | true => rw [addS_of hsj] at hs; cases hs

theorem chain_at (h0 : c 0 = 0) {S : Nat → Bool} {p : Nat} {e : Emb} {w : World} {ca : Act} {m : FrameMode} (inv : Inv fi e0 H0 w0 a0 ops.size X ST c S p e w ca m) {k : Nat} {o : Oper} (ho : ops[k]? = some o) (hk : S k = false) (hpre : ∀ j, bit (X k).pre j = true → S j = true) (hc : (X k).ch = true) : c k = p := by
  have hkn : k < ops.size := (Array.getElem?_eq_some_iff.1 ho).1
  have h1 : ¬ c k < p := fun hlt => by rw [(inv.chain k hkn hc).2 hlt] at hk; cases hk
  rcases Nat.lt_or_ge p (c k) with h2 | h2
  · obtain ⟨j, hj, hcj, hcp⟩ := c_hit hF h0 (Nat.le_of_lt hkn) h2
    have hs : S j = true := by
      rcases inPlace_spec (hF k o ho).place j hj with hb | ⟨_, _, _, hb⟩
      · exact hpre j hb
      · rw [hc, hcj] at hb; cases hb
    have := (inv.chain j (by omega) hcj).1 hs
    omega
  · omega

variable {P : Program} {R : Nat → Option (List Value)} (hT : TabOk P T R) (hec : Meets P T R ec)
include hT hec

theorem stepD (h0 : c 0 = 0) (hrd : readsOk H0.next (revl X ops.size) (revl ST (c ops.size + 1)) (revl X ops.size) = true) (hb0 : Base T R e0 H0) (r0 : Rep e0 H0 w0) {b : Frame} (hfi : FiRel e0 fi b) {cs : List Frame} (hcs : fi.dfr = true → cs ≠ [])
    {S : Nat → Bool} {p : Nat} {e : Emb} {w : World} {ca : Act} {m : FrameMode} (inv : Inv fi e0 H0 w0 a0 ops.size X ST c S p e w ca m) {k : Nat} {o : Oper} (ho : ops[k]? = some o) (hk : S k = false)
    (hready : ∀ ed ∈ o.after.toList, Region.binds .any ed = true → S ed.on = true) (rest : List Nat) (kk : List Item) :
    ∃ p' e' w' ca' m', Inv fi e0 H0 w0 a0 ops.size X ST c (addS S k) p' e' w' ca' m' ∧
      Steps P (lone (b.atR ca (.inRegion ops (k :: rest) :: kk)) (withMode fi.dfr cs m) w) (lone (b.atR ca' (.inRegion ops rest :: kk)) (withMode fi.dfr cs m') w') := by
  have hkn : k < ops.size := (Array.getElem?_eq_some_iff.1 ho).1
  have hpre := pre_in hF inv.closed ho hready
  obtain ⟨Hs, hout, hn, hin, hrest⟩ := inv.heap
  have hbs : Base T R e Hs := hb0.out hout
  have htm := inv.tmrel
  have hρ : RhoRel e (rhoD T.E a0 (revl X k) (o.looksAt ops)) ca.eval := rho_at hF inv.closed ho hk hpre hbs inv.tms
  have hwant : ∀ {t : Bool}, wantedD ops a0 (revl X k) (o.looksAt ops) o = some t → Region.wanted o (yielded ops ca.tmps) = t := fun h => wanted_at hF inv.closed ho hk hpre inv.tms h
  obtain ⟨n', hkind, hcn⟩ := (hF k o ho).kind
  rcases kind_cases hkind with ⟨hw, hv, hob, hch, _⟩ | ⟨v, hw, he, hv, hob, hch, _⟩ | ⟨f, hw, he, hrf, hob, hch, _⟩ | ⟨mk, hw, he, hv, hob, hch, _⟩ | ⟨a1, H1, hw, hr, hv, hob, hch, hn'⟩
  · -- not wanted
    refine ⟨p, e, w, _, m, inv.quiet hF h0 ho hk hpre hob hch (v' := undef) (by rw [hv]; exact undef_rel e), .one ?_⟩
    have h9 := stepR_op_skip (P := P) (ops := ops) (b := b) (a := ca) (k := kk) (cs := withMode fi.dfr cs m) (w := w) (i := k) (rest := rest) (by rw [ho]; simp [hwant hw])
    rw [ho] at h9
    exact h9
  · have hnd := effOf_defer he (fun f as h => by cases h)
    have hx := effOf_ok hT.env hρ he
    obtain ⟨v', h1, h2⟩ := hx w
    exact ⟨p, e, w, _, m, inv.quiet hF h0 ho hk hpre hob hch (v' := v') (by rw [hv]; exact h2), .one (step_op_value ho (hwant hw) (by rw [semAt_eq' (.inl hnd)]; exact h1))⟩
  · have hnd := effOf_defer he (fun f as h => by cases h)
    have hx := effOf_ok hT.env hρ he
    have hsub := seen_sub inv hpre hn hin hrest
    have hsr := readsOk_spec hrd k hkn f hrf
    have hpc : p < c ops.size + 1 := by have := inv.ple; omega
    have hlo : cntPre (X k).pre (revl X k) ≤ p := (cntPre_le hF (p := p) (Nat.le_of_lt hkn) fun j hj hcj hbj => (inv.chain j (by omega) hcj).1 (hpre j hbj)).1
    have hhi : p ≤ cntNot k (revl X ops.size) := by
      have := cntNot_ge hF h0 (k := k) (p := p) (m := ops.size) (Nat.le_refl _) fun j hj hcj hlt => by
        cases hb : bit (X j).pre k with
        | false => rfl
        | true =>
          have := inv.closed j k ((inv.chain j hj hcj).2 hlt) hb
          rw [hk] at this; cases this
      have := inv.ple
      omega
    have hval := sameRead_spec hsr p hpc hlo hhi
    obtain ⟨v', h1, h2⟩ := hx _ w (X k).v (hout.rep.sub hsub) hval
    exact ⟨p, e, w, _, m, inv.quiet hF h0 ho hk hpre hob hch (v' := v') h2, .one (step_op_value ho (hwant hw) (by rw [semAt_eq' (.inl hnd)]; exact h1))⟩
  · -- a new object
    have hnd := effOf_defer he (fun f as h => by cases h)
    have hx := effOf_ok hT.env hρ he
    have hmgk : bit (ST p).mg k = false := by
      cases hm : bit (ST p).mg k with
      | false => rfl
      | true => have := inv.mg k hm; rw [hk] at this; cases this
    have hunm : e (H0.next + k) = none := inv.unm k hkn (by rw [hob]; simp) hk
    have hnone : Hs.t.get (H0.next + k) = none := by
      rw [hrest _ (fun j hs hjo hm he => by
        have : j = k := by omega
        subst this; rw [hk] at hs; cases hs)]
      exact inv.res k hkn hmgk
    obtain ⟨v', ob, av, nd, h1, h2⟩ := hx w (H0.next + k) hunm
    have ho1 := (h2 { w with heap := w.heap.push ob } (by simp)).1
    have hv1 := (h2 { w with heap := w.heap.push ob } (by simp)).2
    have hle := Emb.le_add (e := e) ⟨w.heap.size, 0, av⟩ hunm
    have out1 := ((hout.allocAt (i := H0.next + k) (Nat.le_add_right _ _) (by rw [hn]; have := inv.nxt; omega) hunm hnone mk.obj ob av ho1).drawn nd)
    refine ⟨p, _, _, ca.put o.dst v', m, Inv.next hF h0 inv ho hk hpre ?_ ?_ (inv.up.mono hle) (.inl ⟨hch, rfl⟩) ⟨_, out1, hn, ?_, ?_⟩ inv.res (fun j hj => addS_of (inv.mg j hj)) ?_ inv.nxt,
      .one (step_op_value ho (hwant hw) (by rw [semAt_eq' (.inl hnd)]; exact h1))⟩
    · rw [hv]; exact put_tmrel (htm.mono hle) o.dst hv1
    · rw [put_defers]
      exact (ActRel.mono hle (a := ⟨putsS S X a0.tm ops.size, (ST p).ds, none⟩) ⟨htm, inv.defs⟩).2
    · intro j ob' hs hj hm
      simp only
      rw [Tr.get_set]
      rcases addS_true hs with rfl | hs2
      · rw [if_pos rfl, ← hj, hob]
      · rw [if_neg]
        · exact hin j ob' hs2 hj hm
        · intro he
          have : j = k := by omega
          rw [this, hk] at hs2; cases hs2
    · intro id hid
      simp only
      rw [Tr.get_set, if_neg]
      · exact hrest id fun j hs => hid j (addS_of hs)
      · exact hid k (addS_self S k) (by rw [hob]; simp) hmgk
    · intro j hj hjo hs
      have hjk : j ≠ k := fun he => by subst he; rw [addS_self] at hs; cases hs
      rw [addS_ne hjk] at hs
      have : H0.next + j ≠ H0.next + k := by omega
      simp only [Emb.add, if_neg this]
      exact inv.unm j hj hjo hs
  · -- an operation that turns the heap
    have hcp : c k = p := chain_at hF h0 inv ho hk hpre hch
    subst hn'
    obtain ⟨hc1, hst1⟩ := hcn
    rw [hcp] at hr hc1 hst1
    let a : AAct := ⟨putsS S X a0.tm ops.size, (ST p).ds, (ST p).up⟩
    let K : AHeap := ⟨addP H0.next (X k).pre (ST p).mg (revl X k) (ST p).H.t, (ST p).H.next⟩
    have hsub : Sub K Hs := seen_sub inv hpre hn hin hrest
    have rK : Rep e K w := hout.rep.sub hsub
    have hbK : Base T R e K := by
      refine ⟨hbs.glob, fun i cs hi => ?_⟩
      have h1 := hbs.rom i cs hi
      have h2 : i < H0.next := r0.lt i _ (hb0.rom i cs hi)
      show (addP H0.next (X k).pre (ST p).mg (revl X k) (ST p).H.t).get i = _
      rw [addP_out (fun j _ he => by omega), ← hrest i (fun j _ _ _ he => by omega)]
      exact h1
    have ha : ActRel e a ca := ⟨htm, inv.defs⟩
    let φ : OpRes → OpRes := fun r => match r with
      | .next a1 H1 => .next (a.after o.dst ((a1.tm.get 0).getD undef) a1.defers a1.up) H1
      | .panic ch _ H1 => .panic ch a H1
    have hnat := opRunG_nat T ec φ fi (rhoD T.E a0 (revl X k) (o.looksAt ops)) o (ST p).up K k0 kp0
    have hk0 : (fun v ds up H1 => φ (k0 v ds up H1)) = fun v ds up H1 => OpRes.next (a.after o.dst v ds up) H1 := by
      funext v ds up H1; rfl
    have hkp0 : (fun ch H1 => φ (kp0 ch H1)) = fun ch H1 => OpRes.panic ch a H1 := by
      funext ch H1; rfl
    rw [hk0, hkp0] at hnat
    have hr2 : opRunG T ec fi (rhoD T.E a0 (revl X k) (o.looksAt ops)) o (ST p).up K k0 kp0 = some [.next a1 H1] := hr
    rw [hr2] at hnat
    obtain ⟨res, hres, hmet⟩ := opRunG_met hT hec (rest := rest) (k := kk) (m := m) (cs := cs) (a := a) ho (hwant hw) rK hbK (hfi.mono hout.le) ha inv.up hcs hρ hnat
    simp only [List.map_cons, List.map_nil, List.mem_singleton] at hres
    subst hres
    obtain ⟨e', w', ca', m', hO, hA, hU, hS⟩ := hmet
    -- the heap, with what is beside
    have hmg' : ∀ j, bit (Nat.lor (ST p).mg (X k).pre) j = (bit (ST p).mg j || bit (X k).pre j) := fun j => bit_lor _ _ _
    have hKnone : ∀ j, j < ops.size → bit (Nat.lor (ST p).mg (X k).pre) j = false → K.t.get (H0.next + j) = none := by
      intro j hj hm
      rw [hmg', Bool.or_eq_false_iff] at hm
      show (addP H0.next (X k).pre (ST p).mg (revl X k) (ST p).H.t).get (H0.next + j) = none
      rw [addP_out (fun j2 _ he => by
        have : j2 = j := by omega
        subst this; exact .inr (.inl hm.2))]
      exact inv.res j hj hm.1
    have hH1none : ∀ j, j < ops.size → bit (Nat.lor (ST p).mg (X k).pre) j = false → H1.t.get (H0.next + j) = none := by
      intro j hj hm
      cases hg : H1.t.get (H0.next + j) with
      | none => rfl
      | some ob =>
        rcases hO.ids _ _ hg with ⟨ob0, h1, _⟩ | h1
        · rw [hKnone j hj hm] at h1; cases h1
        · have : K.next = (ST p).H.next := rfl
          have := inv.nxt
          omega
    let F : Nat → Bool := fun j => S j && !(bit (Nat.lor (ST p).mg (X k).pre) j)
    let H2 : AHeap := ⟨addF H0.next F X ops.size H1.t, H1.next⟩
    have hFt : ∀ j, F j = true ↔ S j = true ∧ bit (Nat.lor (ST p).mg (X k).pre) j = false := by
      intro j
      show (S j && !(bit (Nat.lor (ST p).mg (X k).pre) j)) = true ↔ _
      rw [Bool.and_eq_true, Bool.not_eq_true']
    have hbes : Beside K Hs H1 H2 := by
      refine ⟨rfl, ?_, ?_, ?_⟩
      · intro i ob hi
        show (addF H0.next F X ops.size H1.t).get i = some ob
        rw [addF_out]
        · exact hi
        · intro j hj he
          subst he
          cases hf : F j with
          | false => exact .inr rfl
          | true =>
            rw [hH1none j hj ((hFt j).1 hf).2] at hi; cases hi
      · intro i ob hi hh
        show (addF H0.next F X ops.size H1.t).get i = some ob
        by_cases hx : ∃ j, S j = true ∧ i = H0.next + j ∧ (X j).ob ≠ none ∧ bit (ST p).mg j = false
        · obtain ⟨j, h1, rfl, h3, h4⟩ := hx
          cases hjo : (X j).ob with
          | none => exact absurd hjo h3
          | some ob' =>
            have h5 := hin j ob' h1 hjo h4
            rw [h5] at hh; cases hh
            have h6 : bit (X k).pre j = false := by
              cases hb : bit (X k).pre j with
              | false => rfl
              | true =>
                have h7 : K.t.get (H0.next + j) = _ := addP_in (base := H0.next) (mg := (ST p).mg) (t := (ST p).H.t) (k := k) hjo hb h4 (pre_lt hF ho j hb)
                rw [hi] at h7; cases h7
            exact addF_in hjo ((hFt j).2 ⟨h1, by rw [hmg', h4, h6]; rfl⟩) (inv.lt j h1)
        · exfalso
          have h5 := hrest i (fun j hs hjo hm he => hx ⟨j, hs, he, hjo, hm⟩)
          have h6 : K.t.get i = (ST p).H.t.get i := addP_out (fun j hj he => by
            by_cases h1 : (X j).ob = none
            · exact .inl h1
            · cases h2 : bit (X k).pre j with
              | false => exact .inr (.inl rfl)
              | true =>
                cases h3 : bit (ST p).mg j with
                | true => exact .inr (.inr rfl)
                | false => exact absurd ⟨j, hpre j h2, he, h1, h3⟩ hx)
          rw [h5, ← h6, hi] at hh; cases hh
      · intro i ob hi
        rcases addF_cases hi with h | ⟨j, hj, rfl, hjo, hf⟩
        · exact .inl h
        · obtain ⟨h1, h2⟩ := (hFt j).1 hf
          have h3 := h2
          rw [hmg', Bool.or_eq_false_iff] at h3
          exact .inr ⟨hKnone j hj h2, hin j ob h1 hjo h3.1⟩
    have hO2 : Out e Hs w e' H2 w' := hO.beside hout.rep hsub hbes (fun i cs hi => by
      cases hg : K.t.get i with
      | none => exact .inl rfl
      | some ob =>
        have := hsub.2 i ob hg
        rw [hi] at this; cases this
        exact .inr rfl)
    have hmode : (ST (p + 1)) = ⟨addDefs a1.defers (ST p).ds, a1.up, H1, Nat.lor (ST p).mg (X k).pre⟩ := hst1
    refine ⟨p + 1, e', w', ca', m', Inv.next hF h0 inv ho hk hpre ?_ ?_ ?_ (.inr ⟨hch, rfl⟩) ⟨H2, hout.trans hO2 r0, ?_, ?_, ?_⟩ ?_ ?_ ?_ ?_, hS⟩
    · have h1 := hA.1
      rw [hv]
      exact h1
    · rw [hmode]; exact hA.2
    · rw [hmode]; exact hU
    · rw [hmode]
    · intro j ob hs hjo hm
      rw [hmode] at hm
      show (addF H0.next F X ops.size H1.t).get (H0.next + j) = some ob
      have hsj : S j = true := by
        rcases addS_true hs with rfl | hs
        · rw [hob] at hjo; cases hjo
        · exact hs
      exact addF_in hjo ((hFt j).2 ⟨hsj, hm⟩) (inv.lt j hsj)
    · intro id hid
      rw [hmode] at hid ⊢
      show (addF H0.next F X ops.size H1.t).get id = H1.t.get id
      refine addF_out fun j hj he => ?_
      cases hf : F j with
      | false => exact .inr rfl
      | true =>
        obtain ⟨h1, h2⟩ := (hFt j).1 hf
        cases hjo : (X j).ob with
        | none => exact .inl rfl
        | some ob => exact absurd he (hid j (addS_of h1) (by rw [hjo]; simp) h2)
    · intro j hj hm
      rw [hmode] at hm ⊢
      exact hH1none j hj hm
    · intro j hm
      rw [hmode] at hm
      simp only at hm
      rw [hmg', Bool.or_eq_true] at hm
      rcases hm with hm | hm
      · exact addS_of (inv.mg j hm)
      · exact addS_of (hpre j hm)
    · intro j hj hjo hs
      have hjk : j ≠ k := fun he => by subst he; rw [addS_self] at hs; cases hs
      rw [addS_ne hjk] at hs
      exact hO.still _ (by show H0.next + j < (ST p).H.next; have := inv.nxt; omega) (inv.unm j hj hjo hs)
    · rw [hmode]
      have h1 : K.next ≤ H1.next := hO.next
      have h2 : K.next = (ST p).H.next := rfl
      have := inv.nxt
      show H0.next + ops.size ≤ H1.next
      omega
end

end Go.WeftN
