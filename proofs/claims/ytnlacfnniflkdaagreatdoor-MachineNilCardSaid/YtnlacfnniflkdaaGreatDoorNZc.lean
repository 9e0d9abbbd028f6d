/- A drawn region: what holds when some of its operations have run. -/
import Derived.Test.YtnlacfnniflkdaaGreatDoorNZb
namespace Go.WeftN

/-- The latest writer's value, of those in S. -/
def lookS (S : Nat → Bool) (X : Nat → PE) (t : Tmp) : Nat → Option Value
  | 0 => none
  | k + 1 => match (X k).dst with
    | some d => bif S k && Nat.beq d t then some (X k).v else lookS S X t k
    | none => lookS S X t k

theorem lookS_congr {S S' : Nat → Bool} {X : Nat → PE} {t : Tmp} : ∀ {k : Nat}, (∀ j, j < k → (X j).dst = some t → S j = S' j) → lookS S X t k = lookS S' X t k
  | 0, _ => rfl
  | k + 1, h => by
    have ih := lookS_congr (S := S) (S' := S') (X := X) (t := t) (k := k) fun j hj => h j (by omega)
    simp only [lookS]
    cases hd : (X k).dst with
    | none => exact ih
    | some d =>
      simp only
      cases hb : Nat.beq d t with
      | false => simp only [Bool.and_false, cond_false]; exact ih
      | true =>
        have : d = t := Nat.eq_of_beq_eq_true hb
        subst this
        rw [h k (by omega) hd, ih]

theorem lookW_eq (X : Nat → PE) (t : Tmp) : ∀ k, lookW (revl X k) t = lookS (fun _ => true) X t k
  | 0 => rfl
  | k + 1 => by
    simp only [revl, lookW, lookS, Bool.true_and, lookW_eq X t k]
    cases (X k).dst <;> rfl

/-- Of those before i alone. -/
theorem lookS_lt (X : Nat → PE) (t : Tmp) (i : Nat) : ∀ k, i ≤ k → lookS (fun j => decide (j < i)) X t k = lookS (fun _ => true) X t i
  | 0, h => by have : i = 0 := by omega
               subst this; rfl
  | k + 1, h => by
    by_cases hi : i = k + 1
    · subst hi
      exact lookS_congr fun j hj _ => by simp [hj]
    · have ih := lookS_lt X t i k (by omega)
      simp only [lookS]
      have hk : decide (k < i) = false := by simp; omega
      rw [hk]
      cases (X k).dst with
      | none => exact ih
      | some d => simp only [Bool.false_and, cond_false]; exact ih

structure KFact (T : Tab) (ec : EC) (fi : FI) (ops : Array Oper) (a0 : AAct) (base : Nat) (X : Nat → PE) (ST : Nat → St) (c : Nat → Nat) (k : Nat) (o : Oper) : Prop where
  pre : preM (revl X k) k o.after.toList = some (X k).pre
  dok : dstOk a0.tm o.dst = true
  dst : (X k).dst = o.dst
  rd : (X k).rd = o.looksAt ops
  place : inPlace (X k).pre o.dst (o.looksAt ops) (X k).ch (revl X k) = true
  kind : ∃ n', Kind T ec fi ops a0 base o k (revl X k) (ST (c k)) (X k).pre (X k) n' ∧ match n' with
    | none => c (k + 1) = c k
    | some st' => c (k + 1) = c k + 1 ∧ ST (c k + 1) = st'

theorem kfact_of {T : Tab} {ec : EC} {fi : FI} {ops : Array Oper} {a0 : AAct} {base : Nat} {X : Nat → PE} {ST : Nat → St} {c : Nat → Nat} {k : Nat} {o : Oper}
    (h : opD T ec fi ops a0 base o ⟨revl X k, revl ST (c k + 1)⟩ = some ⟨revl X (k + 1), revl ST (c (k + 1) + 1)⟩) : KFact T ec fi ops a0 base X ST c k o := by
  obtain ⟨pre, x, n, h1, h2, h3, h4, h5⟩ := opD_kind (res := revl X k) (st := ST (c k)) (sts := revl ST (c k)) h
  rw [revl_length] at h1 h4
  simp only [DP.mk.injEq] at h5
  obtain ⟨h5, h6⟩ := h5
  have hx : x = X k := by simp only [revl, List.cons.injEq] at h5; exact h5.1.symm
  subst hx
  have hpd : (X k).pre = pre ∧ (X k).dst = o.dst ∧ (X k).rd = o.looksAt ops := by
    generalize X k = y at h4
    cases h4 <;> exact ⟨rfl, rfl, rfl⟩
  obtain ⟨hp, hd, hr⟩ := hpd
  subst hp
  refine ⟨h1, h2, hd, hr, h3, n, h4, ?_⟩
  cases n with
  | none =>
    have := congrArg List.length h6
    simp [revl_length] at this
    exact this
  | some st' =>
    have hl := congrArg List.length h6
    simp [revl_length] at hl
    refine ⟨hl, ?_⟩
    rw [hl] at h6
    simp only [revl, List.cons.injEq] at h6
    exact h6.1

end Go.WeftN
