/- Cells that are read, and cells that are written. -/
import Derived.Test.YtnlacfnniflkdaaGreatDoorNF
import Derived.Laws.Cells
namespace Go.WeftN

def cellsOf : AObj → Option (List Value)
  | .cells cs _ _ _ => some cs
  | .rom cs => some cs
  | _ => none

/-- n cells of an object, from off on. -/
def readV (t : Tr) (id off n : Nat) : Option (List Value) :=
  match t.get id with
  | some o => match cellsOf o with
    | some cs => bif Nat.ble (off + n) cs.length then some ((cs.drop off).take n) else none
    | none => none
  | none => none

theorem readV_ok {e : Emb} {H : AHeap} {w : World} (r : Rep e H w) {id off n : Nat} {l : Loc} (hl : e id = some l) {vs : List Value} (h : readV H.t id off n = some vs) :
    ∃ vs', LRel e vs vs' ∧ vs'.length = n ∧ ∀ j v, vs'[j]? = some v → w.cell? ((⟨l.blk, l.base + off, none⟩ : Addr).add j) = some v := by
  unfold readV at h
  split at h
  · rename_i o ho
    split at h
    · rename_i cs hcs
      cases hb : Nat.ble (off + n) cs.length with
      | false => rw [hb] at h; cases h
      | true =>
        rw [hb, cond_true] at h; cases h
        have hle : off + n ≤ cs.length := Nat.le_of_ble_eq_true hb
        obtain ⟨l', hl', hr⟩ := r.obj id o ho
        rw [hl] at hl'; cases hl'
        have hrow : ∃ c elem fr, w.heap[l.blk]? = some (.cells c elem fr) ∧ l.base + cs.length ≤ c.size ∧ ∀ (i : Nat) (v : Value), cs[i]? = some v → ∃ v', c[l.base + i]? = some v' ∧ VRel e v v' := by
          cases o <;> simp only [cellsOf] at hcs <;> cases hcs
          · obtain ⟨c, fr, h1, h0, h00, _, h2, _⟩ := hr; exact ⟨c, _, fr, h1, by omega, h2⟩
          · obtain ⟨c, elem, fr, h1, h0, h00, h2⟩ := hr; exact ⟨c, elem, fr, h1, by omega, h2⟩
        obtain ⟨c, elem, fr, hc, hsz, hv⟩ := hrow
        have hcell : ∀ i v, c[l.base + i]? = some v → w.cell? ⟨l.blk, l.base + i, none⟩ = some v := by
          intro i v hi; simp [World.cell?, hc, hi]
        have hlen : ((c.toList.drop (l.base + off)).take n).length = n := by
          simp only [List.length_take, List.length_drop, Array.length_toList]; omega
        refine ⟨(c.toList.drop (l.base + off)).take n, ⟨?_, ?_⟩, hlen, ?_⟩
        · rw [hlen]; simp only [List.length_take, List.length_drop]; omega
        · intro i v v' hx hy
          rw [List.getElem?_take] at hx hy
          split at hx
          · rename_i hi
            rw [if_pos hi, List.getElem?_drop] at hy
            rw [List.getElem?_drop] at hx
            obtain ⟨u, hu, hr⟩ := hv (off + i) v hx
            rw [Nat.add_assoc] at hy
            simp only [Array.getElem?_toList] at hy
            rw [hu] at hy; cases hy; exact hr
          · cases hx
        · intro j v hj
          rw [addr_add]
          rw [List.getElem?_take] at hj
          split at hj
          · rw [List.getElem?_drop] at hj
            have := hcell (off + j) v (by rw [← Nat.add_assoc]; simpa using hj)
            rwa [← Nat.add_assoc] at this
          · cases hj
    · cases h
  · cases h


def loadV (E : Env) (t : TypeId) (x : Value) (T : Tr) : Option Value :=
  match x, E.ty t with
  | .pointer (some ⟨id, off, none⟩), some i =>
    bif isAggD i.desc then match readV T id off i.size with
      | some cs => some (.agg cs.toArray)
      | none => none
    else match readV T id off 1 with
      | some (v :: _) => some v
      | _ => none
  | _, _ => none

theorem run_loadVar {P : Program} {E : Env} (hE : EnvOk P E) {e : Emb} {H : AHeap} {w : World} (r : Rep e H w) {t : TypeId} {i : TI} (hi : E.ty t = some i) {id off : Nat} {l : Loc} (hl : e id = some l) {v : Value}
    (h : (bif isAggD i.desc then match readV H.t id off i.size with
      | some cs => some (Value.agg cs.toArray)
      | none => none
    else match readV H.t id off 1 with
      | some (v :: _) => some v
      | _ => none) = some v) : ∃ v', (loadVar t ⟨l.blk, l.base + off, none⟩).run P w = .ok v' w ∧ VRel e v v' := by
  unfold loadVar
  simp only [Sem.run_bind, run_agg hE hi, Result.andThen_ok]
  cases hg : isAggD i.desc with
  | true =>
    rw [hg, cond_true] at h
    split at h
    · rename_i cs hcs
      cases h
      obtain ⟨vs', hr, hn, hc⟩ := readV_ok r hl hcs
      have hrun := run_loadCells_list (P := P) w ⟨l.blk, l.base + off, none⟩ vs' hc
      rw [hn] at hrun
      refine ⟨.agg vs'.toArray, ?_, ?_⟩
      · simp [run_size hE hi, hrun]
      · have := hr.toA; exact .agg this.1 this.2
    · cases h
  | false =>
    rw [hg, cond_false] at h
    split at h
    · rename_i u us hcs
      cases h
      obtain ⟨vs', hr, hn, hc⟩ := readV_ok r hl hcs
      obtain ⟨u', b', rfl, hu, _⟩ := hr.uncons
      have h0 := hc 0 u' rfl
      rw [addr_add, Nat.add_zero] at h0
      exact ⟨u', by simp [h0], hu⟩
    · cases h

theorem loadV_ok {P : Program} {E : Env} (hE : EnvOk P E) {e : Emb} {H : AHeap} {w : World} (r : Rep e H w) {t : TypeId} {x x' v : Value} (rx : VRel e x x') (h : loadV E t x H.t = some v) :
    ∃ v', (Instr.loadAt t x').run P w = .ok v' w ∧ VRel e v v' := by
  unfold loadV at h
  split at h
  · rename_i id off i hi
    cases rx with
    | ptr hl =>
      obtain ⟨v', h1, h2⟩ := run_loadVar hE r hi hl h
      exact ⟨v', by simp [Instr.loadAt, Instr.sureAddr, h1], h2⟩
  · cases h

/-! ### Writing -/
def oneK : Value → Bool
  | .agg _ | .tuple _ | .complex _ _ _ => false
  | _ => true

theorem VRel.one {e : Emb} {v v' : Value} (r : VRel e v v') (h : oneK v = true) : v'.oneCell' = true := by
  cases r <;> simp_all [oneK, Value.oneCell']

/-- Cells of a block are turned. -/
def World.putCells (w : World) (b : Nat) (c : Array Value) (elem : TypeId) (fr : Nat × Nat) : World := { w with heap := w.heap.setIfInBounds b (.cells c elem fr) }

theorem setCell_eq {w : World} {b o : Nat} {v : Value} {c : Array Value} {elem : TypeId} {fr : Nat × Nat} (h : w.heap[b]? = some (.cells c elem fr)) :
    w.setCell ⟨b, o, none⟩ v = World.putCells w b (c.setIfInBounds o v) elem fr := by
  unfold World.setCell World.putCells
  have hb : b < w.heap.size := (Array.getElem?_eq_some_iff.1 h).1
  have he : w.heap[b] = .cells c elem fr := (Array.getElem?_eq_some_iff.1 h).2
  congr 1
  apply Array.ext
  · simp
  · intro i h1 h2
    have h3 : i < w.heap.size := by simpa using h1
    rw [Array.getElem_modify, Array.getElem_setIfInBounds h3]
    split
    · rename_i hi; subst hi; simp [he]
    · rfl

theorem run_storeCells_mine {P : Program} {b : Nat} {elem : TypeId} {fr : Nat × Nat} : ∀ (vs : List Value) (o i : Nat) (c : Array Value) (w : World), w.heap[b]? = some (.cells c elem fr) → (∀ v ∈ vs, v.oneCell' = true) →
    o + i + vs.length ≤ c.size → (fr.1 = fr.2 ∨ fr.2 ≤ o + i) →
    (storeCells ⟨b, o, none⟩ vs i).run P w = .ok () (World.putCells w b (putAll c.toList vs (o + i)).toArray elem fr)
  | [], o, i, c, w, h, _, _, _ => by
    have : World.putCells w b c elem fr = w := by
      unfold World.putCells
      have hb : b < w.heap.size := (Array.getElem?_eq_some_iff.1 h).1
      have he : w.heap[b] = .cells c elem fr := (Array.getElem?_eq_some_iff.1 h).2
      cases w; congr 1
      apply Array.ext
      · simp
      · intro i h1 h2
        rw [Array.getElem_setIfInBounds]
        split
        · rename_i hi; subst hi; exact he.symm
        · rfl
    simp [storeCells, putAll, this]
  | v :: vs, o, i, c, w, h, ho, hs, hf => by
    have hlt : o + i < c.size := by simp at hs; omega
    have hcell : w.cell? ⟨b, o + i, none⟩ = some c[o + i] := by simp [World.cell?, h, hlt]
    have hfz : w.frozen? ⟨b, o + i, none⟩ = false := by
      simp only [World.frozen?, h]
      simp; omega
    have hv : v.oneCell' = true := ho v (by simp)
    unfold storeCells
    simp only [Sem.run_bind, addr_add]
    rw [run_store P w _ v _ hv, hcell]
    simp only [hfz, Bool.false_eq_true, if_false, Result.andThen_ok]
    rw [setCell_eq h]
    have h2 : (World.putCells w b (c.setIfInBounds (o + i) v) elem fr).heap[b]? = some (.cells (c.setIfInBounds (o + i) v) elem fr) := by
      have hb : b < w.heap.size := (Array.getElem?_eq_some_iff.1 h).1
      simp [World.putCells, hb]
    rw [run_storeCells_mine vs o (i + 1) _ _ h2 (fun u hu => ho u (by simp [hu])) (by simp at hs ⊢; omega) (by omega)]
    unfold World.putCells
    simp [putAll, Nat.add_assoc]

end Go.WeftN
