/- The model's operation does what 'effOf' says. -/
import Derived.Test.YtnlacfnniflkdaaGreatDoorNN
namespace Go.WeftN

theorem parts_rel {e : Emb} {ρ ρ' : Rho} (h : RhoRel e ρ ρ') (ps : Array (Nat × Operand)) : PRel e (ps.toList.map fun p => (p.1, ρ p.2)) (ps.map fun (i, x) => (i, ρ' x)).toList := by
  refine ⟨by simp, fun i x y hx hy => ?_⟩
  simp only [List.getElem?_map, Array.toList_map] at hx hy
  cases hp : ps.toList[i]? with
  | none => rw [hp] at hx; simp at hx
  | some p =>
    rw [hp] at hx hy
    simp at hx hy
    subst hx hy
    exact ⟨rfl, h p.2⟩

theorem args_rel {e : Emb} {ρ ρ' : Rho} (h : RhoRel e ρ ρ') (l : List Operand) : LRel e (l.map ρ) (l.map ρ') := by
  induction l with
  | nil => exact .nil e
  | cons x l ih => exact .cons (h x) ih

theorem arr_rel {e : Emb} {ρ ρ' : Rho} (h : RhoRel e ρ ρ') (l : Array Operand) : ARel e (l.map ρ) (l.map ρ') := by
  have h2 := (args_rel h l.toList).toA
  have e1 : ∀ f : Rho, (List.map f l.toList).toArray = l.map f := fun f => by apply Array.ext'; simp
  rwa [e1, e1] at h2

theorem opt_rel {e : Emb} {ρ ρ' : Rho} (h : RhoRel e ρ ρ') (x : Option Operand) : ORelV e (x.map ρ) (x.map ρ') := by
  cases x with
  | none => exact trivial
  | some x => exact h x

theorem nilCheckV_ok {P : Program} {e : Emb} {ρ' : Rho} {x : Operand} {v u : Value} {o : Oper} (ho : o.op = .nilCheck x) (r : VRel e v (ρ' x)) (h : nilCheckV v = some u) (w : World) : ∃ v', (execOp ρ' o).run P w = .ok (.value v') w ∧ VRel e u v' := by
  unfold nilCheckV at h
  unfold execOp
  rw [ho]
  simp only
  split at h
  · cases h
    generalize hx : ρ' x = y at *
    cases r with
    | ptr hl => exact ⟨_, rfl, .ptr hl⟩
  · cases h
    generalize hx : ρ' x = y at *
    cases r with
    | func hf ha hai hc hci =>
      cases hf with
      | func => exact ⟨_, rfl, .func (.func _) ha hai hc hci⟩
  · cases h

theorem eff_pure {P : Program} {e : Emb} {s : Sem Value} {v : Value} (h : ∀ w, ∃ v', s.run P w = .ok v' w ∧ VRel e v v') : EffOk P e (do pure (.value (← s))) (.pure v) := by
  intro w
  obtain ⟨v', h1, h2⟩ := h w
  exact ⟨v', by simp [h1], h2⟩

theorem eff_pure1 {P : Program} {e : Emb} {s : Sem Value} {v : Value} (h : ∀ w, s.run P w = .ok v w ∧ VRel e v v) : EffOk P e (do pure (.value (← s))) (.pure v) :=
  eff_pure fun w => ⟨v, (h w).1, (h w).2⟩

theorem eff_read {P : Program} {e : Emb} {s : Sem Value} {f : Tr → Option Value} (h : ∀ H w v, Rep e H w → f H.t = some v → ∃ v', s.run P w = .ok v' w ∧ VRel e v v') : EffOk P e (do pure (.value (← s))) (.read f) := by
  intro H w v r hf
  obtain ⟨v', h1, h2⟩ := h H w v r hf
  exact ⟨v', by simp [h1], h2⟩

theorem eff_alloc {P : Program} {e : Emb} {s : Sem Value} {m : Mk} (h : MkOk P e s m) : EffOk P e (do pure (.value (← s))) (.alloc m) := by
  intro w id hid
  obtain ⟨v', ob, av, n, h1, h2⟩ := h w id hid
  exact ⟨v', ob, av, n, by simp [h1], h2⟩

theorem eff_mutv {P : Program} {e : Emb} {s : Sem Value} {f : AHeap → Option (Value × AHeap)} (h : ∀ H w v H', Rep e H w → f H = some (v, H') → ∃ v' w' e', s.run P w = .ok v' w' ∧ Out e H w e' H' w' ∧ VRel e' v v') :
    EffOk P e (do pure (.value (← s))) (.turn fun H => one1 (f H)) := by
  intro H w os r hf
  obtain ⟨x, hx, rfl⟩ := Option.map_eq_some_iff.1 hf
  obtain ⟨v', w', e', h1, h2, h3⟩ := h H w x.1 x.2 r hx
  exact ⟨x.1, x.2, .value v', w', e', by simp, by simp [h1], h2, .inr ⟨v', rfl, h3⟩⟩

theorem eff_mutu {P : Program} {e : Emb} {s : Sem Unit} {f : AHeap → Option AHeap} (h : ∀ H w H', Rep e H w → f H = some H' → ∃ w', s.run P w = .ok () w' ∧ Out e H w e H' w') :
    EffOk P e (do s; pure .skip) (.turn fun H => one1 ((f H).map fun H' => (undef, H'))) := by
  intro H w os r hf
  obtain ⟨x, hx, rfl⟩ := Option.map_eq_some_iff.1 hf
  obtain ⟨H', hH, rfl⟩ := Option.map_eq_some_iff.1 hx
  obtain ⟨w', h1, h2⟩ := h H w H' r hH
  exact ⟨undef, H', .skip, w', e, by simp, by simp [h1], h2, .inl ⟨rfl, rfl⟩⟩

theorem effCall_ok {P : Program} {E : Env} (hE : EnvOk P E) {e : Emb} {ρ ρ' : Rho} (h : RhoRel e ρ ρ') {c : Call} {o : Oper} (ho : o.op = .call c) {x : Eff} (hx : effCall E ρ c = some x) : EffOk P e (execOp ρ' o) x := by
  have hargs := args_rel h c.args.toList
  have hexec : execOp ρ' o = (do let d ← resolve ρ' c o.type; invoke d.target d.args) := by unfold execOp; rw [ho]
  rw [hexec]
  unfold effCall at hx
  simp only at hx
  split at hx
  · rename_i f hc
    cases hx
    refine ⟨ρ' f, c.args.toList.map ρ', h f, hargs, fun w => ?_⟩
    have e1 : (List.map ρ' c.args.toList).toArray = c.args.map ρ' := by apply Array.ext'; simp
    rw [e1]
    unfold resolve
    rw [hc]
  · cases hx
  · rename_i b hc
    obtain ⟨CS, hCS⟩ : ∃ CS, (do let d ← resolve ρ' c o.type; invoke d.target d.args) = builtin b c.argTypes o.type CS (c.args.map ρ') := ⟨_, by unfold resolve; rw [hc]; rfl⟩
    rw [hCS]
    have hargs' : LRel e (c.args.toList.map ρ) (c.args.map ρ').toList := by simpa using hargs
    split at hx
    · rename_i v hv
      cases hx
      exact fun w => builtinV_ok (P := P) hE (ty := o.type) (cs := CS) hargs' hv w
    · split at hx
      · rename_i s a hargsEq hbv
        rw [hargsEq] at hargs'
        obtain ⟨s', a', h1, hs, ha⟩ := hargs'.two
        have harr : c.args.map ρ' = #[s', a'] := by apply Array.ext'; simpa using h1
        rw [harr]
        show EffOk P e (do pure (.value (← Builtin.append_ c.argTypes o.type #[s', a']))) _
        split at hx
        · rename_i m hm
          cases hx
          exact eff_alloc (appendMakeV_ok hE hs ha hm)
        · cases hx
          exact eff_mutv fun H w v H' r hf => appendV_ok hE r hs ha hf
      · rename_i s a hargsEq hbv
        cases hx
        rw [hargsEq] at hargs'
        obtain ⟨s', a', h1, hs, ha⟩ := hargs'.two
        have harr : c.args.map ρ' = #[s', a'] := by apply Array.ext'; simpa using h1
        rw [harr]
        show EffOk P e (do pure (.value (← Builtin.copy_ c.argTypes o.type #[s', a']))) _
        exact eff_mutv fun H w v H' r hf => let ⟨w', a1, a2, a3⟩ := copyV_ok hE r hs ha hf; ⟨v, w', e, a1, a2, a3⟩
      · rename_i s a hargsEq hbv
        cases hx
        rw [hargsEq] at hargs'
        obtain ⟨s', a', h1, hs, ha⟩ := hargs'.two
        have harr : c.args.map ρ' = #[s', a'] := by apply Array.ext'; simpa using h1
        rw [harr]
        show EffOk P e (do pure (.value (← Builtin.unsafeString_ c.argTypes o.type #[s', a']))) _
        exact eff_mutv fun H w v H' r hf => let ⟨w', a1, a2, a3⟩ := unsafeStrV_ok hE r hs ha hf; ⟨v, w', e, a1, a2, a3⟩
      · cases hx
        exact fun w => rfl
      · cases hx

theorem effOf_ok {P : Program} {E : Env} (hE : EnvOk P E) {e : Emb} {ρ ρ' : Rho} (h : RhoRel e ρ ρ') {o : Oper} {x : Eff} (hx : effOf E ρ o = some x) : EffOk P e (execOp ρ' o) x := by
  unfold effOf at hx
  split at hx
  · rename_i y ho; cases hx
    unfold execOp; rw [ho]
    exact fun w => ⟨_, rfl, h y⟩
  · rename_i y ho; cases hx
    unfold execOp; rw [ho]
    exact fun w => ⟨_, rfl, h y⟩
  · rename_i c a b ho
    split at hx
    · rename_i t hc; cases hx
      have hcr := h c
      rw [hc] at hcr
      unfold execOp; rw [ho]
      generalize hcc : ρ' c = y at *
      cases hcr
      intro w
      refine ⟨if t then ρ' a else ρ' b, by simp only [hcc, asBool, Sem.run_bind, Sem.run_pure, Result.andThen_ok], ?_⟩
      cases t
      · exact h b
      · exact h a
    · cases hx
  · rename_i t ho
    obtain ⟨m, hm, rfl⟩ := Option.map_eq_some_iff.1 hx
    unfold execOp; rw [ho]
    exact eff_alloc (allocV_ok hE hm)
  · rename_i t y ho
    obtain ⟨m, hm, rfl⟩ := Option.map_eq_some_iff.1 hx
    unfold execOp; rw [ho]
    exact eff_alloc (boxV_ok (h y) hm)
  · rename_i t ps ho
    obtain ⟨m, hm, rfl⟩ := Option.map_eq_some_iff.1 hx
    unfold execOp; rw [ho]
    exact eff_pure fun w => buildV_ok hE (parts_rel h ps) hm w
  · rename_i t n ps ho
    obtain ⟨m, hm, rfl⟩ := Option.map_eq_some_iff.1 hx
    unfold execOp; rw [ho]
    exact eff_alloc (buildSliceV_ok hE (parts_rel h ps) hm)
  · rename_i t a ho; cases hx
    unfold execOp; rw [ho]
    exact eff_read fun H w v r hf => loadV_ok hE r (h a) hf
  · rename_i t a y ho; cases hx
    unfold execOp; rw [ho]
    exact eff_mutu fun H w H' r hf => storeV_ok hE r (h a) (h y) hf
  · rename_i y ho
    obtain ⟨m, hm, rfl⟩ := Option.map_eq_some_iff.1 hx
    exact fun w => nilCheckV_ok ho (h y) hm w
  · rename_i op t a b yt ho
    unfold execOp; rw [ho]
    split at hx
    · rename_i v hv; cases hx
      exact eff_pure1 fun w => binV_ok hE (h a) (h b) hv w
    · split at hx
      · rename_i v hv; cases hx
        exact eff_pure1 fun w => ptrEqV_ok hE (h a) (h b) hv w
      · obtain ⟨m, hm, rfl⟩ := Option.map_eq_some_iff.1 hx
        exact eff_pure1 fun w => structEqV_ok hE (h a) (h b) hm w
  · rename_i op t a ho
    obtain ⟨m, hm, rfl⟩ := Option.map_eq_some_iff.1 hx
    unfold execOp; rw [ho]
    exact eff_pure1 fun w => unV_ok (h a) hm w
  · rename_i s d a ho
    unfold execOp; rw [ho]
    split at hx
    · rename_i v hv; cases hx
      exact eff_pure1 fun w => convV_ok hE (h a) hv w
    · cases hx
      refine eff_read fun H w v r hf => ?_
      split at hf
      · rename_i u hu; cases hf
        exact ⟨_, bytesStrV_ok hE r (h a) hu⟩
      · exact ptrConvV_ok hE r (h a) hf
  · rename_i t a ho
    obtain ⟨m, hm, rfl⟩ := Option.map_eq_some_iff.1 hx
    unfold execOp; rw [ho]
    exact eff_pure fun w => ifaceV_ok hE (h a) hm w
  · rename_i fn first captured ho
    split at hx
    · rename_i f; cases hx
      unfold execOp; rw [ho]
      have h1 := arr_rel h first
      have h2 := arr_rel h captured
      exact eff_pure fun w => ⟨_, rfl, .func (.func f) h1.1 h1.2 h2.1 h2.2⟩
    · cases hx
  · rename_i t r0 ho
    split at hx
    · obtain ⟨m, hm, rfl⟩ := Option.map_eq_some_iff.1 hx
      unfold execOp; rw [ho]
      exact eff_alloc (makeMapV_ok hm)
    · cases hx
  · rename_i t l c ho
    obtain ⟨m, hm, rfl⟩ := Option.map_eq_some_iff.1 hx
    unfold execOp; rw [ho]
    exact eff_alloc (makeSliceV_ok hE (h l) (h c) hm)
  · rename_i t a lo hi mx ho
    split at hx
    · cases hx
    · unfold execOp; rw [ho]
      split at hx
      · rename_i v hv; cases hx
        exact eff_pure fun w => sliceV_ok hE (h a) (opt_rel h lo) (opt_rel h hi) hv w
      · cases hx
        exact eff_read fun H w v r hf => arraySliceV_ok hE r (h a) (opt_rel h lo) (opt_rel h hi) hf
  · rename_i s a f ho
    obtain ⟨m, hm, rfl⟩ := Option.map_eq_some_iff.1 hx
    unfold execOp; rw [ho]
    exact eff_pure fun w => fieldAddrV_ok hE (h a) hm w
  · rename_i s a f ho
    obtain ⟨m, hm, rfl⟩ := Option.map_eq_some_iff.1 hx
    unfold execOp; rw [ho]
    exact eff_pure fun w => fieldV_ok hE (h a) hm w
  · rename_i t a i ho
    obtain ⟨m, hm, rfl⟩ := Option.map_eq_some_iff.1 hx
    unfold execOp; rw [ho]
    exact eff_pure fun w => indexAddrV_ok hE (h a) (h i) hm w
  · rename_i t a i ho
    obtain ⟨m, hm, rfl⟩ := Option.map_eq_some_iff.1 hx
    unfold execOp; rw [ho]
    exact eff_pure fun w => indexV_ok hE (h a) (h i) hm w
  · rename_i t a k ok2 ho; cases hx
    unfold execOp; rw [ho]
    exact eff_read fun H w v r hf => lookupV_ok hE r (h a) (h k) hf
  · rename_i t m k y ho; cases hx
    unfold execOp; rw [ho]
    exact eff_mutu fun H w H' r hf => mapUpdateV_ok hE r (h m) (h k) (h y) hf
  · rename_i t y ho; cases hx
    unfold execOp; rw [ho]
    exact eff_mutv fun H w v H' r hf => rangeV_ok hE r (h y) hf
  · rename_i it b ho; cases hx
    unfold execOp; rw [ho]
    intro H w os r hf
    obtain ⟨v, H', v', w', h1, h2, h3, h4⟩ := nextV_ok (P := P) (ty := o.type) r (h it) hf
    exact ⟨v, H', .value v', w', e, h1, by simp [h2], h3, .inr ⟨v', rfl, h4⟩⟩
  · rename_i it ho; cases hx
    unfold execOp; rw [ho]
    exact eff_read fun H w v r hf => entryV_ok r (h it) hf
  · rename_i y yt t ok2 ho
    obtain ⟨m, hm, rfl⟩ := Option.map_eq_some_iff.1 hx
    unfold execOp; rw [ho]
    exact eff_pure fun w => assertV_ok hE (h y) hm w
  · rename_i y i ho
    obtain ⟨m, hm, rfl⟩ := Option.map_eq_some_iff.1 hx
    unfold execOp; rw [ho]
    exact eff_pure fun w => extractV_ok (h y) hm w
  · rename_i c ho
    exact effCall_ok hE h ho hx
  · rename_i c ho
    split at hx
    · rename_i f hc; cases hx
      refine ⟨ρ' f, c.args.toList.map ρ', h f, args_rel h _, fun w => ?_⟩
      have e1 : (List.map ρ' c.args.toList).toArray = c.args.map ρ' := by apply Array.ext'; simp
      rw [e1]
      have hexec : execOp ρ' o = (do pure (.defer (← resolve ρ' c o.type))) := by unfold execOp; rw [ho]
      rw [hexec]
      unfold resolve
      rw [hc]
    · cases hx
  · rename_i y ho
    split at hx
    · rename_i t v hy; cases hx
      have hr := h y
      rw [hy] at hr
      generalize hyy : ρ' y = z at *
      cases hr with
      | iface _ hv =>
        refine ⟨_, .iface t hv, fun w => ?_⟩
        unfold execOp; rw [ho]
        simp [hyy, Instr.panic]
    · cases hx
  · cases hx

end Go.WeftN
