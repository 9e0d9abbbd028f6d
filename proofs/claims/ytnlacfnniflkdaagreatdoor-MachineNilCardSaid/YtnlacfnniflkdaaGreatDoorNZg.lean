/- A drawn region: any operation that is ready may run next. -/
import Derived.Test.YtnlacfnniflkdaaGreatDoorNZf
namespace Go.WeftN

/-! ### What is asked of reads -/
theorem sameRead_spec {base : Nat} {res : List PE} {pre : Nat} {f : Tr → Option Value} {v : Value} {lo hi : Nat} {ST : Nat → St} : ∀ {m : Nat}, sameRead base res pre f v lo hi (revl ST m) = true → ∀ p, p < m → lo ≤ p → p ≤ hi →
    f (addP base pre (ST p).mg res (ST p).H.t) = some v
  | 0, _, p, hp, _, _ => by omega
  | m + 1, h, p, hp, h1, h2 => by
    simp only [revl, sameRead, Bool.and_eq_true, revl_length] at h
    by_cases hpm : p = m
    · subst hpm
      have hle : (Nat.ble lo p && Nat.ble p hi) = true := by rw [Nat.ble_eq_true_of_le h1, Nat.ble_eq_true_of_le h2]; rfl
      have h3 := h.1
      rw [hle, cond_true] at h3
      split at h3
      · rename_i v' hv'
        rw [hv', valEq_eq 5 h3]
      · cases h3
    · exact sameRead_spec h.2 p (by omega) h1 h2

theorem readsOk_spec {base : Nat} {all : List PE} {sts : List St} {X : Nat → PE} : ∀ {m : Nat}, readsOk base all sts (revl X m) = true → ∀ k, k < m → ∀ f, (X k).rf = some f →
    sameRead base (revl X k) (X k).pre f (X k).v (cntPre (X k).pre (revl X k)) (cntNot k all) sts = true
  | 0, _, k, hk, _, _ => by omega
  | m + 1, h, k, hk, f, hf => by
    simp only [revl, readsOk, Bool.and_eq_true, revl_length] at h
    by_cases hkm : k = m
    · subst hkm
      have h1 := h.1
      rw [hf] at h1
      exact h1
    · exact readsOk_spec h.2 k (by omega) f hf

/-! ### Objects beside -/
/-- The new objects of those of F. -/
def addF (base : Nat) (F : Nat → Bool) (X : Nat → PE) : Nat → Tr → Tr
  | 0, t => t
  | k + 1, t => match (X k).ob with
    | some o => bif F k then (addF base F X k t).set (base + k) (some o) else addF base F X k t
    | none => addF base F X k t

theorem addF_out {base : Nat} {F : Nat → Bool} {X : Nat → PE} {t : Tr} {id : Nat} : ∀ {k : Nat}, (∀ j, j < k → id = base + j → (X j).ob = none ∨ F j = false) → (addF base F X k t).get id = t.get id
  | 0, _ => rfl
  | k + 1, h => by
    have ih := addF_out (base := base) (F := F) (X := X) (t := t) (id := id) (k := k) fun j hj he => h j (by omega) he
    simp only [addF]
    split
    · rename_i o ho
      cases hb : F k with
      | false => rw [cond_false]; exact ih
      | true =>
        rw [cond_true, Tr.get_set, if_neg]
        · exact ih
        · intro he
          rcases h k (by omega) he with h | h
          · rw [ho] at h; cases h
          · rw [hb] at h; cases h
    · exact ih

theorem addF_in {base : Nat} {F : Nat → Bool} {X : Nat → PE} {t : Tr} {j : Nat} {o : AObj} (ho : (X j).ob = some o) (hf : F j = true) : ∀ {k : Nat}, j < k → (addF base F X k t).get (base + j) = some o
  | 0, h => by omega
  | k + 1, h => by
    simp only [addF]
    by_cases hj : j = k
    · subst hj
      rw [ho, hf]
      simp only [cond_true]
      rw [Tr.get_set, if_pos rfl]
    · have ih := addF_in (base := base) (F := F) (X := X) (t := t) ho hf (k := k) (by omega)
      split
      · cases F k with
        | false => exact ih
        | true => rw [cond_true, Tr.get_set, if_neg (by omega)]; exact ih
      · exact ih

theorem addF_cases {base : Nat} {F : Nat → Bool} {X : Nat → PE} {t : Tr} {id : Nat} {o : AObj} : ∀ {k : Nat}, (addF base F X k t).get id = some o → t.get id = some o ∨ ∃ j, j < k ∧ id = base + j ∧ (X j).ob = some o ∧ F j = true
  | 0, h => .inl h
  | k + 1, h => by
    simp only [addF] at h
    have go : (addF base F X k t).get id = some o → t.get id = some o ∨ ∃ j, j < k + 1 ∧ id = base + j ∧ (X j).ob = some o ∧ F j = true := fun h => by
      rcases addF_cases h with h | ⟨j, h1, h2⟩
      · exact .inl h
      · exact .inr ⟨j, by omega, h2⟩
    split at h
    · rename_i o' ho'
      cases hb : F k with
      | false => rw [hb, cond_false] at h; exact go h
      | true =>
        rw [hb, cond_true, Tr.get_set] at h
        split at h
        · rename_i hid; cases h; exact .inr ⟨k, by omega, hid, ho', hb⟩
        · exact go h
    · exact go h

theorem Out.same {e : Emb} {H : AHeap} {w : World} {e' : Emb} {H' H2 : AHeap} {w' : World} (o : Out e H w e' H' w') (hg : ∀ id, H2.t.get id = H'.t.get id) (hn : H2.next = H'.next) : Out e H w e' H2 w' where
  le := o.le
  rep := ⟨fun i ob h => o.rep.obj i ob (hg i ▸ h), fun i j oi oj li lj hi hj => o.rep.inj i j oi oj li lj (hg i ▸ hi) (hg j ▸ hj), fun i ob h => hn ▸ o.rep.lt i ob (hg i ▸ h), fun i h => o.rep.fresh i (hn ▸ h)⟩
  next := hn ▸ o.next
  ids := fun i ob h => o.ids i ob (hg i ▸ h)
  rom := fun i cs h => (hg i).trans (o.rom i cs h)
  size := o.size
  keep := o.keep
  new := o.new
  still := o.still
  os := o.os
  output := o.output
  tape := o.tape

section
variable {T : Tab} {ec : EC} {fi : FI} {ops : Array Oper} {e0 : Emb} {H0 : AHeap} {w0 : World} {a0 : AAct} {X : Nat → PE} {ST : Nat → St} {c : Nat → Nat}
  (hF : ∀ k o, ops[k]? = some o → KFact T ec fi ops a0 H0.next X ST c k o)
include hF

theorem pre_lt {k : Nat} {o : Oper} (ho : ops[k]? = some o) : ∀ j, bit (X k).pre j = true → j < k := by
  intro j hj
  induction k using Nat.strongRecOn generalizing o j with
  | _ k ih =>
    obtain ⟨_, h2⟩ := preM_spec (hF k o ho).pre
    obtain ⟨ed, _, _, h3, h4⟩ := h2 j hj
    rcases h4 with rfl | h4
    · exact h3
    · have hkn : k < ops.size := (Array.getElem?_eq_some_iff.1 ho).1
      have := ih ed.on h3 (o := ops[ed.on]'(by omega)) (by simp [show ed.on < ops.size by omega]) j h4
      omega

theorem pre_in {S : Nat → Bool} (hcl : ∀ i j, S i = true → bit (X i).pre j = true → S j = true) {k : Nat} {o : Oper} (ho : ops[k]? = some o) (hready : ∀ ed ∈ o.after.toList, Region.binds .any ed = true → S ed.on = true) :
    ∀ j, bit (X k).pre j = true → S j = true := by
  intro j hj
  obtain ⟨_, h2⟩ := preM_spec (hF k o ho).pre
  obtain ⟨ed, h1, hb, _, h4⟩ := h2 j hj
  rcases h4 with rfl | h4
  · exact hready ed h1 hb
  · exact hcl _ _ (hready ed h1 hb) h4

theorem cntPre_le {pre p : Nat} : ∀ {k : Nat}, k ≤ ops.size → (∀ j, j < k → (X j).ch = true → bit pre j = true → c j < p) → cntPre pre (revl X k) ≤ p ∧ cntPre pre (revl X k) ≤ c k
  | 0, _, _ => by simp [revl, cntPre]
  | k + 1, hk, h => by
    obtain ⟨h1, h2⟩ := cntPre_le (pre := pre) (p := p) (k := k) (by omega) fun j hj => h j (by omega)
    have h3 := c_succ hF (k := k) (o := ops[k]) (by simp)
    simp only [revl, cntPre, revl_length]
    cases hc : (X k).ch with
    | false => rw [hc] at h3; simp only [Bool.false_and, cond_false]; simp at h3; omega
    | true =>
      rw [hc] at h3
      simp at h3
      cases hb : bit pre k with
      | false => simp only [Bool.and_false, cond_false]; omega
      | true =>
        have := h k (by omega) hc hb
        simp only [Bool.and_self, cond_true]
        omega

theorem cntNot_ge (h0 : c 0 = 0) {k p : Nat} : ∀ {m : Nat}, m ≤ ops.size → (∀ j, j < m → (X j).ch = true → c j < p → bit (X j).pre k = false) → min p (c m) ≤ cntNot k (revl X m)
  | 0, _, _ => by rw [h0]; simp
  | m + 1, hm, h => by
    have h1 := cntNot_ge h0 (k := k) (p := p) (m := m) (by omega) fun j hj => h j (by omega)
    have h3 := c_succ hF (k := m) (o := ops[m]) (by simp)
    simp only [revl, cntNot]
    cases hc : (X m).ch with
    | false => rw [hc] at h3; simp only [Bool.false_and, cond_false]; simp at h3; omega
    | true =>
      rw [hc] at h3
      simp at h3
      cases hb : bit (X m).pre k with
      | false => simp only [Bool.not_false, Bool.and_self, cond_true]; omega
      | true =>
        have : ¬ c m < p := fun hlt => by rw [h m (by omega) hc hlt] at hb; cases hb
        simp only [Bool.not_true, Bool.and_false, cond_false]
        omega

end

section
variable {T : Tab} {ec : EC} {fi : FI} {ops : Array Oper} {e0 : Emb} {H0 : AHeap} {w0 : World} {a0 : AAct} {X : Nat → PE} {ST : Nat → St} {c : Nat → Nat}

/-- The heap that an operation sees in the text's order lies in the heap that there is. -/
theorem seen_sub {S : Nat → Bool} {p : Nat} {e : Emb} {w : World} {ca : Act} {m : FrameMode} (inv : Inv fi e0 H0 w0 a0 ops.size X ST c S p e w ca m) {k : Nat} (hpre : ∀ j, bit (X k).pre j = true → S j = true) {Hs : AHeap} (hn : Hs.next = (ST p).H.next)
    (hin : ∀ j o, S j = true → (X j).ob = some o → bit (ST p).mg j = false → Hs.t.get (H0.next + j) = some o)
    (hout : ∀ id, (∀ j, S j = true → (X j).ob ≠ none → bit (ST p).mg j = false → id ≠ H0.next + j) → Hs.t.get id = (ST p).H.t.get id) :
    Sub ⟨addP H0.next (X k).pre (ST p).mg (revl X k) (ST p).H.t, (ST p).H.next⟩ Hs := by
  refine ⟨hn.symm, fun i o hi => ?_⟩
  simp only at hi
  by_cases hx : ∃ j, j < k ∧ i = H0.next + j ∧ (X j).ob ≠ none ∧ bit (X k).pre j = true ∧ bit (ST p).mg j = false
  · obtain ⟨j, h1, rfl, h3, h4, h5⟩ := hx
    cases hob : (X j).ob with
    | none => exact absurd hob h3
    | some o' =>
      rw [addP_in hob h4 h5 h1] at hi
      cases hi
      exact hin j _ (hpre j h4) hob h5
  · rw [addP_out] at hi
    · rw [hout]
      · exact hi
      · intro j hs hob hmg he
        subst he
        rw [inv.res j (inv.lt j hs) hmg] at hi; cases hi
    · intro j hj he
      by_cases h1 : (X j).ob = none
      · exact .inl h1
      · cases h2 : bit (X k).pre j with
        | false => exact .inr (.inl rfl)
        | true =>
          cases h3 : bit (ST p).mg j with
          | true => exact .inr (.inr rfl)
          | false => exact absurd ⟨j, hj, he, h1, h2, h3⟩ hx
end

end Go.WeftN
