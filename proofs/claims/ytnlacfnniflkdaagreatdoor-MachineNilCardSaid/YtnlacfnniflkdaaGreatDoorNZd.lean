/- What follows an operation may be told later. -/
import Derived.Test.YtnlacfnniflkdaaGreatDoorNZc
namespace Go.WeftN

theorem bindL_map {α β γ : Type} (φ : β → γ) (f : α → Option (List β)) (g : α → Option (List γ)) (hfg : ∀ x, g x = (f x).map (List.map φ)) : ∀ xs, bindL xs g = (bindL xs f).map (List.map φ)
  | [] => rfl
  | x :: rest => by
    rw [bindL_cons, bindL_cons, hfg x]
    cases f x with
    | none => rfl
    | some ys =>
      simp only [Option.map_some]
      cases rest with
      | nil => rfl
      | cons r rs =>
        simp only
        rw [bindL_map φ f g hfg (r :: rs)]
        cases bindL (r :: rs) f with
        | none => rfl
        | some zs => simp

section
variable (T : Tab) (ec : EC) (φ : OpRes → OpRes)

theorem effRes_nat (e : Eff) (H : AHeap) (k : Value → AHeap → OpRes) : effRes e H (fun v H1 => φ (k v H1)) = (effRes e H k).map (List.map φ) := by
  cases e <;> simp only [effRes] <;> first | rfl | skip
  · rename_i f; cases f H.t <;> rfl
  · rename_i f; cases f H <;> simp [Function.comp_def]

theorem callRes_nat (f : FuncId) (args : List Value) (H : AHeap) (k : Value → AHeap → OpRes) (kp : Chain → AHeap → OpRes) :
    callRes ec f args H (fun v H1 => φ (k v H1)) (fun ch H1 => φ (kp ch H1)) = (callRes ec f args H k kp).map (List.map φ) := by
  unfold callRes
  split
  · rfl
  · apply bindL_map
    intro x
    cases x with
    | code x a H => rfl
    | call o up H => cases o <;> rfl

theorem yieldRes_nat (l : Nat) (args : List Value) (H : AHeap) (k : Value → AHeap → OpRes) (kp : Chain → AHeap → OpRes) :
    yieldRes T ec l args H (fun v H1 => φ (k v H1)) (fun ch H1 => φ (kp ch H1)) = (yieldRes T ec l args H k kp).map (List.map φ) := by
  unfold yieldRes
  split
  · rename_i L hL
    cases (Nat.beq args.length L.params.toList.length && (T.fn L.fn).isSome) with
    | false => rfl
    | true =>
      simp only [cond_true]
      split
      · rfl
      · apply bindL_map
        intro x
        split
        · rename_i a1 H1
          split
          · split
            · split
              · rfl
              · apply bindL_map
                intro y
                split
                · rename_i x2 a2 H2
                  split
                  · cases x2 <;> rfl
                  · rfl
                · rfl
            · rfl
          · rfl
        · rfl
  · rfl

theorem callV_nat (fv : Value) (args : List Value) (H : AHeap) (k : Value → AHeap → OpRes) (kp : Chain → AHeap → OpRes) :
    callV T ec fv args H (fun v H1 => φ (k v H1)) (fun ch H1 => φ (kp ch H1)) = (callV T ec fv args H k kp).map (List.map φ) := by
  unfold callV
  split
  · simp only
    split
    · split <;> rfl
    · split
      · split
        · exact effRes_nat φ _ _ _
        · rfl
      · split
        · rename_i F hF
          cases F.body.isSome with
          | false => rfl
          | true => simp only [cond_true]; exact callRes_nat ec φ _ _ _ _ _
        · rfl
  · split
    · exact yieldRes_nat T ec φ _ _ _ _ _
    · rfl
  · rfl

theorem opRunG_nat (fi : FI) (ρ : Rho) (o : Oper) (up : Option Chain) (H : AHeap) (k : Value → List ADef → Option Chain → AHeap → OpRes) (kp : Chain → AHeap → OpRes) :
    opRunG T ec fi ρ o up H (fun v ds up H1 => φ (k v ds up H1)) (fun ch H1 => φ (kp ch H1)) = (opRunG T ec fi ρ o up H k kp).map (List.map φ) := by
  unfold opRunG
  split
  · rfl
  · split
    · exact callV_nat T ec φ _ _ _ (fun v H1 => k v [] up H1) kp
    · split <;> rfl
    · split
      · rfl
      · cases fi.dfr with
        | false => rfl
        | true =>
          simp only [cond_true]
          split
          · rename_i p older
            cases p.recovered <;> rfl
          · rfl
    · rfl
    · exact effRes_nat φ _ _ (fun v H1 => k v [] up H1)
end

end Go.WeftN
