/- Tables by number, out of lists; a program's types and functions in such tables. -/
import Derived.Test.YtnlacfnniflkdaaGreatDoorNX
namespace Go.WeftN

/-- Every second member. -/
def evens {α : Type} : List α → List α
  | [] => []
  | [x] => [x]
  | x :: _ :: l => x :: evens l
def odds {α : Type} : List α → List α
  | [] => []
  | [_] => []
  | _ :: y :: l => y :: odds l

theorem evens_get {α : Type} : ∀ (l : List α) (j : Nat), (evens l)[j]? = l[2 * j]?
  | [], j => by simp [evens]
  | [x], j => by
    cases j with
    | zero => simp [evens]
    | succ j => simp [evens]
  | x :: y :: l, 0 => by simp [evens]
  | x :: y :: l, j + 1 => by
    have : 2 * (j + 1) = 2 * j + 1 + 1 := by omega
    simp [evens, this, evens_get l j]
theorem odds_get {α : Type} : ∀ (l : List α) (j : Nat), (odds l)[j]? = l[2 * j + 1]?
  | [], j => by simp [odds]
  | [x], j => by simp [odds]
  | x :: y :: l, 0 => by simp [odds]
  | x :: y :: l, j + 1 => by
    have : 2 * (j + 1) + 1 = 2 * j + 1 + 1 + 1 := by omega
    simp [odds, this, odds_get l j]

def Bt.of {α : Type} : Nat → List (Option α) → Bt α
  | 0, _ => .nil
  | _ + 1, [] => .nil
  | n + 1, x :: l => .node x (Bt.of n (evens l)) (Bt.of n (odds l))

theorem Bt.get_of {α : Type} : ∀ (n : Nat) (l : List (Option α)) (k : Nat) (v : α), (Bt.of n l).get k = some v → l[k]? = some (some v)
  | 0, l, k, v, h => by simp [Bt.of, Bt.get_nil] at h
  | n + 1, [], k, v, h => by simp [Bt.of, Bt.get_nil] at h
  | n + 1, x :: l, 0, v, h => by rw [Bt.of, Bt.get_zero] at h; simp [h]
  | n + 1, x :: l, k + 1, v, h => by
    rw [Bt.of, Bt.get_succ] at h
    rw [List.getElem?_cons_succ]
    cases hk : Nat.beq (k % 2) 0 with
    | true =>
      rw [hk, cond_true] at h
      have := Bt.get_of n _ _ _ h
      rw [evens_get] at this
      have h0 : k % 2 = 0 := Nat.eq_of_beq_eq_true hk
      rwa [show 2 * (k / 2) = k by omega] at this
    | false =>
      rw [hk, cond_false] at h
      have := Bt.get_of n _ _ _ h
      rw [odds_get] at this
      have h0 : k % 2 ≠ 0 := fun he => by rw [he] at hk; cases hk
      rwa [show 2 * (k / 2) + 1 = k by omega] at this

/-! ### Types -/
def tiOf (P : Program) (k : TypeId) (j : TypeInfo) : Option TI :=
  match j.zero, P.underlying k with
  | some z, some d => bif plainB 2 z && known z && Nat.beq z.cells.size j.size then some ⟨d, j.size, j.bytes, z⟩ else none
  | _, _ => none

def tisFrom (P : Program) : Nat → List TypeInfo → List (Option TI)
  | _, [] => []
  | k, j :: l => tiOf P k j :: tisFrom P (k + 1) l

theorem tisFrom_get (P : Program) : ∀ (l : List TypeInfo) (n k : Nat), (tisFrom P n l)[k]? = (l[k]?).map (tiOf P (n + k))
  | [], n, k => by simp [tisFrom]
  | j :: l, n, 0 => by simp [tisFrom]
  | j :: l, n, k + 1 => by
    simp only [tisFrom, List.getElem?_cons_succ, tisFrom_get P l (n + 1) k]
    rw [show n + 1 + k = n + (k + 1) by omega]

theorem envOk_of {P : Program} {E : Env} {n : Nat} (h : ∀ t, E.ty t = (Bt.of n (tisFrom P 0 P.types.toList)).get t)
    (hl : ∀ e m o u, E.lies e m o u = true → ∀ i, E.ty e = some i → 0 < i.size → liesAt P P.depth e (m / i.size) o u 1 = true)
    (hq : ∀ t l, E.eqs t = some l → P.stoodInHeld t = false ∧ P.eqGuardType P.depth t = false ∧ ∃ fs, P.underlying t = some (.struct fs) ∧ eqFieldsOk P fs.toList l) : EnvOk P E := by
  have key : ∀ t i, E.ty t = some i → ∃ j, P.info? t = some j ∧ j.zero = some i.zero ∧ P.underlying t = some i.desc ∧ plainB 2 i.zero = true ∧ known i.zero = true ∧ i.zero.cells.size = j.size ∧ j.size = i.size ∧ j.bytes = i.bytes := by
    intro t i hi
    rw [h t] at hi
    have h1 := Bt.get_of _ _ _ _ hi
    rw [tisFrom_get, Nat.zero_add] at h1
    cases hj : P.types.toList[t]? with
    | none => rw [hj] at h1; simp at h1
    | some j =>
      rw [hj] at h1
      simp only [Option.map_some, Option.some.injEq] at h1
      unfold tiOf at h1
      split at h1
      · rename_i z d hz hd
        cases hb : (plainB 2 z && known z && Nat.beq z.cells.size j.size) with
        | false => rw [hb] at h1; cases h1
        | true =>
          rw [hb] at h1
          simp only [Bool.and_eq_true] at hb
          cases h1
          exact ⟨j, by
            have hj2 : P.types[t]? = some j := by simpa using hj
            have hlt : t < P.types.size := (Array.getElem?_eq_some_iff.1 hj2).1
            unfold Tables.info?
            rw [if_pos hlt]; exact hj2, hz, hd, hb.1.1, hb.1.2, Nat.eq_of_beq_eq_true hb.2, rfl, rfl⟩
      · cases h1
  refine ⟨?_, ?_, ?_, hl, hq, ?_, ?_⟩
  · intro t i hi; obtain ⟨j, _, _, h3, _⟩ := key t i hi; exact h3
  · intro t i hi; obtain ⟨j, h1, h2, _, _, _, _, h7, h8⟩ := key t i hi; exact ⟨j, h1, h7, h8, h2⟩
  · intro t i hi e; obtain ⟨j, _, _, _, h4, _⟩ := key t i hi; exact plainB_rel 2 _ e h4
  · intro t i hi; obtain ⟨j, _, _, _, _, h5, _⟩ := key t i hi; exact h5
  · intro t i hi; obtain ⟨j, _, _, _, _, _, h6, h7, _⟩ := key t i hi; rw [h6, h7]

/-! ### Functions -/
def fnOf (F : Func) : Option Func := bif F.name == "runtime.NumGoroutine" then none else some F

theorem fnOk_of {P : Program} {n : Nat} {f : FuncId} {F : Func} (h : (Bt.of n (P.funcs.toList.map fnOf)).get f = some F) : P.funcs[f]? = some F ∧ (F.name == "runtime.NumGoroutine") = false := by
  have h1 := Bt.get_of _ _ _ _ h
  rw [List.getElem?_map] at h1
  cases hj : P.funcs.toList[f]? with
  | none => rw [hj] at h1; simp at h1
  | some G =>
    rw [hj] at h1
    simp only [Option.map_some, Option.some.injEq] at h1
    unfold fnOf at h1
    cases hb : (G.name == "runtime.NumGoroutine") with
    | true => rw [hb] at h1; cases h1
    | false => rw [hb] at h1; cases h1; exact ⟨by simpa using hj, hb⟩

end Go.WeftN
