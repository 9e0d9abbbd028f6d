/- The other operations that ask no memory. -/
import Derived.Test.YtnlacfnniflkdaaGreatDoorNC
namespace Go.WeftN

theorem VRel.cells {e : Emb} {v v' : Value} (r : VRel e v v') (h : known v = true) : ARel e v.cells v'.cells := by
  have sing : ∀ {u u' : Value}, VRel e u u' → ARel e #[u] #[u'] := by
    intro u u' hr
    refine ⟨rfl, fun i x x' y z => ?_⟩
    cases i with
    | zero => simp at y z; subst y z; exact hr
    | succ i => simp at y
  cases r with
  | poison v => simp [known] at h
  | agg ha hai => exact ⟨ha, hai⟩
  | bool b => exact sing (.bool b)
  | int k n => exact sing (.int k n)
  | string s => exact sing (.string s)
  | nilPtr => exact sing .nilPtr
  | nilSlice => exact sing .nilSlice
  | nilMap => exact sing .nilMap
  | nilFunc => exact sing .nilFunc
  | nilIface => exact sing .nilIface
  | ptr hi => exact sing (.ptr hi)
  | slice hi hE hl hav => exact sing (.slice hi hE hl hav)
  | empty a c => exact sing (.empty a c)
  | map hi => exact sing (.map hi)
  | func hf ha hai hc hci => exact sing (.func hf ha hai hc hci)
  | iface t hv => exact sing (.iface t hv)
  | tuple ha hai => exact sing (.tuple ha hai)

/-- Parts, each of a known size. -/
def putAll (cs : List Value) : List Value → Nat → List Value
  | [], _ => cs
  | v :: vs, off => putAll (cs.set off v) vs (off + 1)

theorem foldl_put (vs : Array Value) (off : Nat) (cs : Array Value) :
    vs.zipIdx.foldl (fun cs (c, j) => cs.setIfInBounds (off + j) c) cs = (putAll cs.toList vs.toList off).toArray := by
  obtain ⟨l⟩ := vs
  have key : ∀ (l : List Value) (k : Nat) (cs : Array Value), (l.zipIdx k).foldl (fun (cs : Array Value) (p : Value × Nat) => cs.setIfInBounds (off + p.2) p.1) cs = (putAll cs.toList l (off + k)).toArray := by
    intro l
    induction l with
    | nil => intro k cs; simp [putAll]
    | cons v l ih =>
      intro k cs
      simp only [List.zipIdx_cons, List.foldl_cons, putAll]
      rw [ih (k + 1)]
      simp [Nat.add_assoc]
  have := key l 0 cs
  simp only [Nat.add_zero] at this
  rw [← this, ← Array.foldl_toList]
  simp

def fillV (place : Nat → Option (Nat × Nat)) (cells : List Value) : List (Nat × Value) → Option (List Value)
  | [] => some cells
  | (i, v) :: rest =>
    match place i with
    | none => none
    | some (off, size) =>
      if known v = false ∨ v.cells.size ≠ size ∨ off + v.cells.size > cells.length then none
      else fillV place (putAll cells v.cells.toList off) rest

theorem LRel.putAll {e : Emb} {vs vs' : List Value} (r : LRel e vs vs') : ∀ {cs cs' : List Value} (off : Nat), LRel e cs cs' → LRel e (putAll cs vs off) (putAll cs' vs' off) := by
  induction vs generalizing vs' with
  | nil => intro cs cs' off h; rw [r.nil_inv]; exact h
  | cons v vs ih =>
    intro cs cs' off h
    obtain ⟨v', b', rfl, hv, hr⟩ := r.uncons
    exact ih hr (off + 1) (h.set off hv)

def PRel (e : Emb) (a b : List (Nat × Value)) : Prop := a.length = b.length ∧ ∀ (i : Nat) (x y : Nat × Value), a[i]? = some x → b[i]? = some y → x.1 = y.1 ∧ VRel e x.2 y.2

theorem fillV_ok {e : Emb} (place : Nat → Option (Nat × Nat)) : ∀ (ps ps' : List (Nat × Value)) (cs : List Value) (cs' : Array Value) (out : List Value),
    PRel e ps ps' → LRel e cs cs'.toList → fillV place cs ps = some out → ∃ out', Instr.fill place cs' ps' = some out' ∧ LRel e out out'.toList
  | [], ps', cs, cs', out, hp, hc, h => by
    obtain rfl : ps' = [] := by have := hp.1; cases ps' <;> simp_all
    simp only [fillV] at h; cases h
    exact ⟨cs', rfl, hc⟩
  | (i, v) :: ps, [], cs, cs', out, hp, hc, h => by have := hp.1; simp at this
  | (i, v) :: ps, (i', v') :: ps', cs, cs', out, hp, hc, h => by
    obtain ⟨rfl, hv⟩ := hp.2 0 _ _ rfl rfl
    have hp' : PRel e ps ps' := ⟨by have := hp.1; simpa using this, fun k x y hx hy => hp.2 (k + 1) x y (by simpa using hx) (by simpa using hy)⟩
    simp only [fillV] at h
    unfold Instr.fill
    split at h
    · cases h
    · rename_i off size hpl
      simp only [hpl]
      split at h
      · cases h
      · rename_i hno
        have hk : known v = true := by cases hkk : known v <;> simp_all
        have hcells := hv.cells hk
        have h1 : v'.cells.size = v.cells.size := hcells.1.symm
        have h2 : cs.length = cs'.size := by have := hc.1; simpa using this
        have hsz : v.cells.size = size := by
          apply Classical.byContradiction; intro hx; exact hno (.inr (.inl hx))
        have hle : ¬ off + v.cells.size > cs.length := fun hx => hno (.inr (.inr hx))
        have hc1 : (v'.cells.size ≠ size || off + v'.cells.size > cs'.size) = false := by
          simp only [h1, hsz, ← h2]
          simp; omega
        rw [if_neg (by simpa using hc1)]
        rw [foldl_put]
        exact fillV_ok place ps ps' _ _ out hp' (by simpa using hcells.toL.putAll off hc) h

def strAt (s : ByteArray) (i : Nat) : Option UInt8 := s.data.toList[i]?
theorem strAt_eq (s : ByteArray) (i : Nat) : s[i]? = strAt s i := by
  unfold strAt
  rw [getElem?_def]
  by_cases h : i < s.size
  · rw [dif_pos h]
    have : i < s.data.toList.length := by simpa using h
    rw [List.getElem?_eq_getElem this]; rfl
  · rw [dif_neg h]
    exact (List.getElem?_eq_none (by simpa using h)).symm

def strCut (s : ByteArray) (l h : Nat) : ByteArray := ⟨((s.data.toList.drop l).take (h - l)).toArray⟩
theorem strCut_eq (s : ByteArray) (l h : Nat) : s.extract l h = strCut s l h := by
  apply ByteArray.ext
  rw [ByteArray.data_extract]
  unfold strCut
  apply Array.ext'
  simp [Array.toList_extract]

/-- A bound of a slice: a number from 0 to y. -/
def boundV (y : Nat) (d : Nat) : Option Value → Option Nat
  | none => some d
  | some (.int _ i) => if 0 ≤ i ∧ i ≤ (y : Int) then some i.toNat else none
  | _ => none

def ORelV (e : Emb) : Option Value → Option Value → Prop
  | none, none => True
  | some a, some b => VRel e a b
  | _, _ => False

theorem run_sliceBound {P : Program} {y : Nat} {v : Value} {n d : Nat} (code : BoundsCode) (h : boundV y d (some v) = some n) (w : World) : (Instr.sliceBound v y code).run P w = .ok n w := by
  unfold boundV at h
  split at h
  · cases ‹some v = none›
  · rename_i k i heq
    cases heq
    split at h
    · rename_i hb; cases h
      simp [Instr.sliceBound, asIntOf, hb]
    · cases h
  · cases h

theorem boundV_rel {e : Emb} {y n d : Nat} {a a' : Option Value} (r : ORelV e a a') (h : boundV y d a = some n) : boundV y d a' = some n ∧ n ≤ max y d := by
  cases a with
  | none => cases a' with
    | none => simp only [boundV] at h ⊢; cases h; exact ⟨rfl, by omega⟩
    | some _ => exact r.elim
  | some v => cases a' with
    | none => exact r.elim
    | some v' =>
      unfold boundV at h
      split at h
      · cases ‹some v = none›
      · rename_i k i heq
        cases heq
        cases (r : VRel e _ _)
        refine ⟨h, ?_⟩
        split at h
        · cases h; omega
        · cases h
      · cases h

/-- Both bounds, of a length and the most that the upper one may be. -/
def boundsV (len most : Nat) (lo hi : Option Value) : Option (Nat × Nat) :=
  match boundV most len hi with
  | none => none
  | some h => match boundV h 0 lo with
    | none => none
    | some l => some (l, h)

theorem run_sliceBounds {P : Program} {e : Emb} {isSlice : Bool} {len most cap : Nat} {lo hi lo' hi' : Option Value} (rl : ORelV e lo lo') (rh : ORelV e hi hi') {l h : Nat}
    (hb : boundsV len most lo hi = some (l, h)) (hm : most ≤ cap) (hl : len ≤ most) (w : World) : (Instr.sliceBounds isSlice len cap lo' hi' none).run P w = .ok (l, h, cap) w ∧ l ≤ h ∧ h ≤ most := by
  unfold boundsV at hb
  split at hb
  · cases hb
  · rename_i h2 hh
    split at hb
    · cases hb
    · rename_i l2 hl2
      cases hb
      obtain ⟨hh', hle⟩ := boundV_rel rh hh
      obtain ⟨hl', hle'⟩ := boundV_rel rl hl2
      refine ⟨?_, by omega, by omega⟩
      unfold Instr.sliceBounds
      cases hi' with
      | none =>
        simp only [boundV] at hh'; cases hh'
        cases lo' with
        | none => simp only [boundV] at hl'; cases hl'; simp
        | some lv => simp [run_sliceBound (P := P) .sliceB hl' w]
      | some hv =>
        have hh2 : boundV cap len (some hv) = some h := by
          unfold boundV at hh' ⊢
          split at hh'
          · cases ‹some hv = none›
          · rename_i k i heq; cases heq
            split at hh'
            · cases hh'; rw [if_pos (by omega)]
            · cases hh'
          · cases hh'
        cases lo' with
        | none => simp only [boundV] at hl'; cases hl'; cases isSlice <;> simp [run_sliceBound (P := P) _ hh2 w]
        | some lv => cases isSlice <;> simp [run_sliceBound (P := P) _ hh2 w, run_sliceBound (P := P) .sliceB hl' w]

end Go.WeftN
