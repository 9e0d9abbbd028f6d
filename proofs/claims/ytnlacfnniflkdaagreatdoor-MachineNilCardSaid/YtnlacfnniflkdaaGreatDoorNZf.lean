/- A drawn region: one operation more has run. -/
import Derived.Test.YtnlacfnniflkdaaGreatDoorNZe
namespace Go.WeftN

def addS (S : Nat → Bool) (k : Nat) : Nat → Bool := fun j => S j || Nat.beq j k
theorem addS_self (S : Nat → Bool) (k : Nat) : addS S k k = true := by simp [addS]
theorem addS_ne {S : Nat → Bool} {k j : Nat} (h : j ≠ k) : addS S k j = S j := by
  have : Nat.beq j k = false := by
    cases hb : Nat.beq j k with
    | false => rfl
    | true => exact absurd (Nat.eq_of_beq_eq_true hb) h
  simp [addS, this]
theorem addS_true {S : Nat → Bool} {k j : Nat} (h : addS S k j = true) : j = k ∨ S j = true := by
  by_cases hj : j = k
  · exact .inl hj
  · rw [addS_ne hj] at h; exact .inr h

theorem lookS_add {S : Nat → Bool} {X : Nat → PE} {t : Tmp} {k : Nat} (hd : (X k).dst = some t) : ∀ {n : Nat}, k < n → (∀ j, k < j → j < n → (X j).dst = some t → S j = false) → lookS (addS S k) X t n = some (X k).v
  | 0, h, _ => by omega
  | n + 1, h, hl => by
    simp only [lookS]
    by_cases hkn : k = n
    · subst hkn
      rw [hd, addS_self]
      simp
    · have ih := lookS_add (S := S) hd (n := n) (by omega) fun j h1 h2 => hl j h1 (by omega)
      cases hdn : (X n).dst with
      | none => exact ih
      | some d =>
        simp only
        rw [addS_ne (Ne.symm hkn)]
        cases hb : (S n && Nat.beq d t) with
        | false => rw [cond_false]; exact ih
        | true =>
          simp only [Bool.and_eq_true] at hb
          have : d = t := Nat.eq_of_beq_eq_true hb.2
          subst this
          rw [hl n (by omega) (by omega) hdn] at hb
          cases hb.1

theorem lookS_keep {S : Nat → Bool} {X : Nat → PE} {t : Tmp} {k n : Nat} (hd : (X k).dst ≠ some t) : lookS (addS S k) X t n = lookS S X t n :=
  lookS_congr fun j _ hj => addS_ne fun he => by subst he; exact hd hj

/-- Temporaries, when the operations of S have run. -/
noncomputable def putsS (S : Nat → Bool) (X : Nat → PE) (tm : Tm) : Nat → Tm
  | 0 => tm
  | k + 1 => bif S k then putT (putsS S X tm k) (X k).dst (X k).v else putsS S X tm k

theorem putsS_get (S : Nat → Bool) (X : Nat → PE) (tm : Tm) (t : Tmp) : ∀ n, (putsS S X tm n).get t = (tm.get t).map fun v0 => (lookS S X t n).getD v0
  | 0 => by simp only [putsS, lookS, Option.getD_none]; cases tm.get t <;> rfl
  | n + 1 => by
    have ih := putsS_get S X tm t n
    simp only [putsS, lookS]
    cases hs : S n with
    | false =>
      rw [cond_false, ih]
      cases (X n).dst with
      | none => rfl
      | some d => simp
    | true =>
      rw [cond_true]
      cases hd : (X n).dst with
      | none => exact ih
      | some d =>
        show ((putsS S X tm n).put d (X n).v).get t = _
        rw [Bt.get_put]
        simp only [Bool.true_and]
        cases hb : Nat.beq d t with
        | true =>
          have : d = t := Nat.eq_of_beq_eq_true hb
          subst this
          rw [if_pos rfl, ih]
          cases tm.get d <;> rfl
        | false =>
          rw [if_neg (fun he => by subst he; rw [Nat.beq_refl] at hb; cases hb), ih]
          rfl

section
variable {T : Tab} {ec : EC} {fi : FI} {ops : Array Oper} {e0 : Emb} {H0 : AHeap} {w0 : World} {a0 : AAct} {X : Nat → PE} {ST : Nat → St} {c : Nat → Nat}
  (hF : ∀ k o, ops[k]? = some o → KFact T ec fi ops a0 H0.next X ST c k o)
include hF

theorem later_out {S : Nat → Bool} (hcl : ∀ i j, S i = true → bit (X i).pre j = true → S j = true) {k : Nat} (hk : S k = false) {t : Tmp} (hd : (X k).dst = some t) : ∀ j, k < j → j < ops.size → (X j).dst = some t → S j = false := by
  intro j h1 h2 h3
  obtain ⟨oj, hoj⟩ : ∃ oj, ops[j]? = some oj := ⟨ops[j], by simp [h2]⟩
  cases hs : S j with
  | false => rfl
  | true =>
    rcases inPlace_spec (hF j oj hoj).place k h1 with hb | ⟨_, hb, _⟩
    · rw [hcl j k hs hb] at hk; cases hk
    · rw [← (hF j oj hoj).dst, h3, hd] at hb
      simp [sameO] at hb

theorem c_succ {k : Nat} {o : Oper} (ho : ops[k]? = some o) : c (k + 1) = c k + (if (X k).ch then 1 else 0) := by
  obtain ⟨n', h1, h2⟩ := (hF k o ho).kind
  have hch : (X k).ch = n'.isSome := by
    generalize (X k).pre = pr at h1
    generalize X k = y at h1 ⊢
    cases h1 <;> rfl
  rw [hch]
  cases n' with
  | none => simpa using h2
  | some st => simpa using h2.1

theorem c_mono {i : Nat} : ∀ {k : Nat}, i ≤ k → k ≤ ops.size → c i ≤ c k
  | 0, h, _ => by have : i = 0 := by omega
                  subst this; exact Nat.le_refl _
  | k + 1, h, hk => by
    by_cases hi : i = k + 1
    · subst hi; exact Nat.le_refl _
    · have := c_mono (i := i) (k := k) (by omega) (by omega)
      have := c_succ hF (k := k) (o := ops[k]) (by simp)
      omega

theorem c_lt {i k : Nat} (h : i < k) (hk : k ≤ ops.size) (hi : (X i).ch = true) : c i < c k := by
  have h1 := c_succ hF (k := i) (o := ops[i]) (by simp)
  rw [if_pos hi] at h1
  have h2 := c_mono hF (i := i + 1) (k := k) (by omega) hk
  omega

theorem c_hit (h0 : c 0 = 0) {q : Nat} : ∀ {k : Nat}, k ≤ ops.size → q < c k → ∃ j, j < k ∧ (X j).ch = true ∧ c j = q
  | 0, _, h => by omega
  | k + 1, hk, h => by
    have h1 := c_succ hF (k := k) (o := ops[k]) (by simp)
    by_cases hq : q < c k
    · obtain ⟨j, a, b, d⟩ := c_hit h0 (k := k) (by omega) hq
      exact ⟨j, by omega, b, d⟩
    · cases hc : (X k).ch with
      | false => rw [hc] at h1; simp at h1; omega
      | true => rw [hc] at h1; simp at h1; exact ⟨k, by omega, hc, by omega⟩


/-- What does not hang on the kind. -/
theorem Inv.next (h0 : c 0 = 0) {S : Nat → Bool} {p : Nat} {e : Emb} {w : World} {ca : Act} {m : FrameMode} (inv : Inv fi e0 H0 w0 a0 ops.size X ST c S p e w ca m) {k : Nat} {o : Oper} (ho : ops[k]? = some o) (hk : S k = false) (hpre : ∀ j, bit (X k).pre j = true → S j = true)
    {p' : Nat} {e' : Emb} {w' : World} {m' : FrameMode} {ca' : Act} (htms : TmRel e' (putT (putsS S X a0.tm ops.size) o.dst (X k).v) ca'.tmps) (hdefs : DRel e' (ST p').ds ca'.defers) (hup : UpRel fi.dfr e' (ST p').up m')
    (hch : ((X k).ch = false ∧ p' = p) ∨ ((X k).ch = true ∧ p' = p + 1))
    (hheap : ∃ Hs : AHeap, Out e0 H0 w0 e' Hs w' ∧ Hs.next = (ST p').H.next ∧
      (∀ j o, addS S k j = true → (X j).ob = some o → bit (ST p').mg j = false → Hs.t.get (H0.next + j) = some o) ∧
      (∀ id, (∀ j, addS S k j = true → (X j).ob ≠ none → bit (ST p').mg j = false → id ≠ H0.next + j) → Hs.t.get id = (ST p').H.t.get id))
    (hres : ∀ j, j < ops.size → bit (ST p').mg j = false → (ST p').H.t.get (H0.next + j) = none)
    (hmg : ∀ j, bit (ST p').mg j = true → addS S k j = true)
    (hunm : ∀ j, j < ops.size → (X j).ob ≠ none → addS S k j = false → e' (H0.next + j) = none)
    (hnxt : H0.next + ops.size ≤ (ST p').H.next) : Inv fi e0 H0 w0 a0 ops.size X ST c (addS S k) p' e' w' ca' m' := by
  have hkn : k < ops.size := (Array.getElem?_eq_some_iff.1 ho).1
  have hp : (X k).ch = true → c k = p := by
    intro hc
    have h1 : ¬ c k < p := fun hlt => by rw [(inv.chain k hkn hc).2 hlt] at hk; cases hk
    rcases Nat.lt_or_ge p (c k) with h2 | h2
    · obtain ⟨j, hj, hcj, hcp⟩ := c_hit hF h0 (Nat.le_of_lt hkn) h2
      have hs : S j = true := by
        rcases inPlace_spec (hF k o ho).place j hj with hb | ⟨_, _, _, hb⟩
        · exact hpre j hb
        · rw [hc, hcj] at hb; cases hb
      have := (inv.chain j (by omega) hcj).1 hs
      omega
    · omega
  refine { lt := ?_, closed := ?_, chain := ?_, ple := ?_, heap := hheap, res := hres, mg := hmg, unm := hunm, nxt := hnxt, tms := ?_, defs := hdefs, up := hup }
  · intro i hi
    rcases addS_true hi with rfl | hi
    · exact hkn
    · exact inv.lt i hi
  · intro i j hi hb
    have : S j = true := by
      rcases addS_true hi with rfl | hi
      · exact hpre j hb
      · exact inv.closed i j hi hb
    by_cases hj : j = k
    · subst hj; exact addS_self _ _
    · rw [addS_ne hj]; exact this
  · intro i hi hci
    by_cases hik : i = k
    · subst hik
      rw [addS_self]
      rcases hch with ⟨hc, _⟩ | ⟨hc, rfl⟩
      · rw [hci] at hc; cases hc
      · have := hp hc
        exact ⟨fun _ => by omega, fun _ => rfl⟩
    · rw [addS_ne hik, inv.chain i hi hci]
      rcases hch with ⟨hc, rfl⟩ | ⟨hc, rfl⟩
      · exact Iff.rfl
      · have h1 := hp hc
        have hne : c i ≠ p := by
          intro he
          rcases Nat.lt_or_gt_of_ne hik with h | h
          · have := c_lt hF h (Nat.le_of_lt hkn) hci; omega
          · have := c_lt hF h (Nat.le_of_lt hi) hc; omega
        omega
  · rcases hch with ⟨hc, rfl⟩ | ⟨hc, rfl⟩
    · exact inv.ple
    · have h1 := hp hc
      have := c_lt hF hkn (Nat.le_refl _) hc
      omega
  · intro t
    have h1 := htms t
    have hdok := (hF k o ho).dok
    have hdst := (hF k o ho).dst
    have h2 : (putT (putsS S X a0.tm ops.size) o.dst (X k).v).get t = (a0.tm.get t).map fun v0 => (lookS (addS S k) X t ops.size).getD v0 := by
      by_cases hd : o.dst = some t
      · rw [hd]
        show ((putsS S X a0.tm ops.size).put t (X k).v).get t = _
        have hd2 : (X k).dst = some t := by rw [hdst]; exact hd
        rw [Bt.get_put, if_pos rfl, putsS_get, lookS_add hd2 hkn (later_out hF inv.closed hk hd2)]
        cases a0.tm.get t <;> rfl
      · have h3 : (putT (putsS S X a0.tm ops.size) o.dst (X k).v).get t = (putsS S X a0.tm ops.size).get t := by
          cases hd2 : o.dst with
          | none => rfl
          | some d =>
            show ((putsS S X a0.tm ops.size).put d (X k).v).get t = _
            rw [Bt.get_put, if_neg]
            intro he; exact hd (by rw [hd2, he])
        rw [h3, putsS_get, lookS_keep (by rw [hdst]; exact hd)]
    rw [h2] at h1
    cases hg : a0.tm.get t with
    | none => rw [hg] at h1; exact h1
    | some v0 => rw [hg] at h1; exact h1
end

end Go.WeftN
