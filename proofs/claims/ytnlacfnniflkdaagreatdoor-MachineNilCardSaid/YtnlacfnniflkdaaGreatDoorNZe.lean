/- A drawn region, in the midst of it: what holds when the operations of S have run. -/
import Derived.Test.YtnlacfnniflkdaaGreatDoorNZd
namespace Go.WeftN

structure Inv (fi : FI) (e0 : Emb) (H0 : AHeap) (w0 : World) (a0 : AAct) (n : Nat) (X : Nat → PE) (ST : Nat → St) (c : Nat → Nat) (S : Nat → Bool) (p : Nat) (e : Emb) (w : World) (ca : Act) (m : FrameMode) : Prop where
  lt : ∀ i, S i = true → i < n
  closed : ∀ i j, S i = true → bit (X i).pre j = true → S j = true
  chain : ∀ i, i < n → (X i).ch = true → (S i = true ↔ c i < p)
  ple : p ≤ c n
  heap : ∃ Hs : AHeap, Out e0 H0 w0 e Hs w ∧ Hs.next = (ST p).H.next ∧
    (∀ j o, S j = true → (X j).ob = some o → bit (ST p).mg j = false → Hs.t.get (H0.next + j) = some o) ∧
    (∀ id, (∀ j, S j = true → (X j).ob ≠ none → bit (ST p).mg j = false → id ≠ H0.next + j) → Hs.t.get id = (ST p).H.t.get id)
  res : ∀ j, j < n → bit (ST p).mg j = false → (ST p).H.t.get (H0.next + j) = none
  mg : ∀ j, bit (ST p).mg j = true → S j = true
  unm : ∀ j, j < n → (X j).ob ≠ none → S j = false → e (H0.next + j) = none
  nxt : H0.next + n ≤ (ST p).H.next
  tms : ∀ t, match a0.tm.get t with
    | none => ca.tmps[t]? = none
    | some v0 => ∃ v', ca.tmps[t]? = some v' ∧ VRel e ((lookS S X t n).getD v0) v'
  defs : DRel e (ST p).ds ca.defers
  up : UpRel fi.dfr e (ST p).up m

theorem aev_other {T : Tab} {R : Nat → Option (List Value)} {e : Emb} {H : AHeap} (hb : Base T R e H) (tm : Tm) (ca : Act) (x : Operand) (hx : ∀ t, x ≠ .tmp t) : VRel e (aev T.E tm x) (ca.eval x) := by
  have h0 : TmRel e .nil (#[] : Array Value) := fun i => by rw [Bt.get_nil]; simp
  have := aev_rel (T := T) hb (tm := .nil) (ca := ⟨#[], ca.defers⟩) h0 x
  cases x with
  | tmp t => exact absurd rfl (hx t)
  | const v => exact this
  | global g => exact this
  | func f => exact this

theorem lookS_some {S : Nat → Bool} {X : Nat → PE} {t : Tmp} {v : Value} : ∀ {k : Nat}, lookS S X t k = some v → ∃ j, j < k ∧ (X j).dst = some t
  | 0, h => by simp [lookS] at h
  | k + 1, h => by
    simp only [lookS] at h
    split at h
    · rename_i d hd
      cases hb : (S k && Nat.beq d t) with
      | false => rw [hb, cond_false] at h; obtain ⟨j, h1, h2⟩ := lookS_some h; exact ⟨j, by omega, h2⟩
      | true =>
        simp only [Bool.and_eq_true] at hb
        exact ⟨k, by omega, by rw [hd, Nat.eq_of_beq_eq_true hb.2]⟩
    · obtain ⟨j, h1, h2⟩ := lookS_some h; exact ⟨j, by omega, h2⟩

section
variable {T : Tab} {ec : EC} {fi : FI} {ops : Array Oper} {e0 : Emb} {H0 : AHeap} {w0 : World} {a0 : AAct} {X : Nat → PE} {ST : Nat → St} {c : Nat → Nat}
  (hF : ∀ k o, ops[k]? = some o → KFact T ec fi ops a0 H0.next X ST c k o)
include hF

/-- What an operation looks at is what it looked at in the text's order. -/
theorem look_at {S : Nat → Bool} (hcl : ∀ i j, S i = true → bit (X i).pre j = true → S j = true) {k : Nat} {o : Oper} (ho : ops[k]? = some o) (hk : S k = false) (hpre : ∀ j, bit (X k).pre j = true → S j = true) {t : Tmp} (ht : t ∈ o.looksAt ops) :
    lookS S X t ops.size = lookW (revl X k) t := by
  have hkn : k < ops.size := (Array.getElem?_eq_some_iff.1 ho).1
  rw [lookW_eq, ← lookS_lt X t k ops.size (Nat.le_of_lt hkn)]
  refine lookS_congr fun j hj hd => ?_
  rcases Nat.lt_trichotomy j k with h | h | h
  · have hs : S j = true := by
      rcases inPlace_spec (hF k o ho).place j h with hb | ⟨hb, _⟩
      · exact hpre j hb
      · rw [hd] at hb
        rw [show hasO (o.looksAt ops) (some t) = hasT (o.looksAt ops) t from rfl, hasT_mem.2 ht] at hb
        cases hb
    rw [hs]; simp [h]
  · subst h; rw [hk]; simp
  · obtain ⟨oj, hoj⟩ : ∃ oj, ops[j]? = some oj := ⟨ops[j], by simp [hj]⟩
    have hs : S j = false := by
      cases hs : S j with
      | false => rfl
      | true =>
        rcases inPlace_spec (hF j oj hoj).place k h with hb | ⟨_, _, hb, _⟩
        · rw [hcl j k hs hb] at hk; cases hk
        · rw [(hF k o ho).rd, ← (hF j oj hoj).dst, hd] at hb
          rw [show hasO (o.looksAt ops) (some t) = hasT (o.looksAt ops) t from rfl, hasT_mem.2 ht] at hb
          cases hb
    rw [hs]
    simp; omega

theorem rho_at {R : Nat → Option (List Value)} {S : Nat → Bool} (hcl : ∀ i j, S i = true → bit (X i).pre j = true → S j = true) {k : Nat} {o : Oper} (ho : ops[k]? = some o) (hk : S k = false) (hpre : ∀ j, bit (X k).pre j = true → S j = true)
    {e : Emb} {H : AHeap} (hb : Base T R e H) {ca : Act} (ht : ∀ t, match a0.tm.get t with
      | none => ca.tmps[t]? = none
      | some v0 => ∃ v', ca.tmps[t]? = some v' ∧ VRel e ((lookS S X t ops.size).getD v0) v') :
    RhoRel e (rhoD T.E a0 (revl X k) (o.looksAt ops)) ca.eval := by
  intro x
  cases x with
  | tmp t =>
    simp only [rhoD]
    cases hh : hasT (o.looksAt ops) t with
    | false => exact .poison _
    | true =>
      rw [cond_true]
      have hl := look_at hF hcl ho hk hpre (hasT_mem.1 hh)
      have h1 := ht t
      unfold tmpNow
      rw [← hl]
      cases hg : a0.tm.get t with
      | none =>
        rw [hg] at h1
        have hs : lookS S X t ops.size = none := by
          cases hs : lookS S X t ops.size with
          | none => rfl
          | some v =>
            obtain ⟨j, hj, hd⟩ := lookS_some hs
            obtain ⟨oj, hoj⟩ : ∃ oj, ops[j]? = some oj := ⟨ops[j], by simp [hj]⟩
            have := (hF j oj hoj).dok
            rw [← (hF j oj hoj).dst, hd] at this
            simp [dstOk, hg] at this
        rw [hs]
        simp only [Act.eval, Array.getD_eq_getD_getElem?, h1, Option.getD_none]
        exact undef_rel e
      | some v0 =>
        rw [hg] at h1
        obtain ⟨v', h2, h3⟩ := h1
        simp only [Act.eval, Array.getD_eq_getD_getElem?, h2, Option.getD_some]
        cases hs : lookS S X t ops.size with
        | none => rw [hs] at h3; exact h3
        | some v => rw [hs] at h3; exact h3
  | const v => exact aev_other hb a0.tm ca (.const v) (fun t h => by cases h)
  | global g => exact aev_other hb a0.tm ca (.global g) (fun t h => by cases h)
  | func f => exact aev_other hb a0.tm ca (.func f) (fun t h => by cases h)

theorem wanted_at {S : Nat → Bool} (hcl : ∀ i j, S i = true → bit (X i).pre j = true → S j = true) {k : Nat} {o : Oper} (ho : ops[k]? = some o) (hk : S k = false) (hpre : ∀ j, bit (X k).pre j = true → S j = true)
    {e : Emb} {ca : Act} (ht : ∀ t, match a0.tm.get t with
      | none => ca.tmps[t]? = none
      | some v0 => ∃ v', ca.tmps[t]? = some v' ∧ VRel e ((lookS S X t ops.size).getD v0) v')
    {b : Bool} (hw : wantedD ops a0 (revl X k) (o.looksAt ops) o = some b) : Region.wanted o (yielded ops ca.tmps) = b := by
  unfold wantedD at hw
  unfold Region.wanted
  split at hw
  · rename_i hg; cases hw; rw [hg]
  · rename_i j want hg
    rw [hg]
    simp only [Array.getElem?_toList] at hw
    unfold yielded
    cases hd : (ops[j]?).bind (·.dst) with
    | none => rw [hd] at hw; cases hw; simp [hd]
    | some d =>
      rw [hd] at hw
      simp only [hd, Option.bind_some] at hw ⊢
      cases hh : hasT (o.looksAt ops) d with
      | false => rw [hh] at hw; cases hw
      | true =>
        rw [hh, cond_true] at hw
        have hl := look_at hF hcl ho hk hpre (hasT_mem.1 hh)
        have h1 := ht d
        cases hg2 : a0.tm.get d with
        | none =>
          rw [hg2] at h1
          have hs : lookS S X d ops.size = none := by
            cases hs : lookS S X d ops.size with
            | none => rfl
            | some v =>
              obtain ⟨j, hj, hd⟩ := lookS_some hs
              obtain ⟨oj, hoj⟩ : ∃ oj, ops[j]? = some oj := ⟨ops[j], by simp [hj]⟩
              have := (hF j oj hoj).dok
              rw [← (hF j oj hoj).dst, hd] at this
              simp [dstOk, hg2] at this
          have hv : tmpNow a0 (revl X k) d = undef := by unfold tmpNow; rw [← hl, hs, hg2]; rfl
          rw [hv] at hw
          simp only [undef] at hw
          cases hw
          simp [h1]
        | some v0 =>
          rw [hg2] at h1
          obtain ⟨v', h2, h3⟩ := h1
          have hv : tmpNow a0 (revl X k) d = (lookS S X d ops.size).getD v0 := by
            unfold tmpNow
            rw [← hl]
            cases lookS S X d ops.size with
            | none => simp [hg2]
            | some v => rfl
          rw [hv] at hw
          rw [h2]
          generalize (lookS S X d ops.size).getD v0 = u at hw h3
          cases h3 <;> simp only at hw <;> first
            | (cases hw; simp; done)
            | (cases hw)
end

end Go.WeftN
