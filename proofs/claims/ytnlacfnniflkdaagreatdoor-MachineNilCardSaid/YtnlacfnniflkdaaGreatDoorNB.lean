/- What it means that a world bears a heap of named objects; what a piece of a run leaves as it was; that such pieces go together, and go on beside objects that they do not name. -/
import Derived.Test.YtnlacfnniflkdaaGreatDoorNA
namespace Go.WeftN

/-- A value that one cell holds. -/
def one : Value → Bool
  | .agg _ | .tuple _ => false
  | _ => true

def MRel (e : Emb) : Option Nat → Option Nat → Prop
  | none, none => True
  | some m, some b => ∃ l, e m = some l ∧ l.blk = b
  | _, _ => False

/-- What lies in the world at a place is what an object says. -/
def ORel (e : Emb) (o : AObj) (l : Loc) (w : World) : Prop :=
  match o with
  | .cells cs exact fz elem => ∃ c fr, w.heap[l.blk]? = some (.cells c elem fr) ∧ l.base + l.av = c.size ∧ cs.length ≤ l.av ∧ (exact = true → cs.length = l.av ∧ l.base = 0) ∧
      (∀ (i : Nat) (v : Value), cs[i]? = some v → ∃ v', c[l.base + i]? = some v' ∧ VRel e v v') ∧
      (fr.1 = fr.2 ∨ fr.2 ≤ l.base + fz)
  | .rom cs => ∃ c elem fr, w.heap[l.blk]? = some (.cells c elem fr) ∧ l.base + l.av = c.size ∧ cs.length = l.av ∧
      (∀ (i : Nat) (v : Value), cs[i]? = some v → ∃ v', c[l.base + i]? = some v' ∧ VRel e v v')
  | .map es clock => ∃ es', w.heap[l.blk]? = some (.map es' clock) ∧ es.length = es'.size ∧
      (∀ (i : Nat) (x x' : MapEntry), es[i]? = some x → es'[i]? = some x' → VRel e x.key x'.key ∧ VRel e x.val x'.val ∧ x.born = x'.born)
  | .miter m since seen stepped => ∃ m', w.heap[l.blk]? = some (.mapIter m' since seen.toArray stepped) ∧ MRel e m m' ∧ l.base = 0
  | .siter s pos => w.heap[l.blk]? = some (.stringIter s pos) ∧ l.base = 0
  | .loop L => ∃ r, w.heap[l.blk]? = some (.loop r) ∧ r.state = L.state ∧ r.pending = L.pending ∧ r.fn = L.fn ∧ TmRel e L.tm r.tmps ∧ r.params = L.params ∧
      r.assign = L.assign ∧ r.body = L.body ∧ ∃ ld, e L.defers = some ld ∧ r.defers = ld.blk
  | .nodefers => w.heap[l.blk]? = some (.deferred (some []))

theorem ORel.there {e : Emb} {o : AObj} {l : Loc} {w : World} (h : ORel e o l w) : l.blk < w.heap.size := by
  cases o with
  | cells cs exact fz elem => obtain ⟨c, fr, h1, _⟩ := h; exact (Array.getElem?_eq_some_iff.1 h1).1
  | rom cs => obtain ⟨c, elem, fr, h1, _⟩ := h; exact (Array.getElem?_eq_some_iff.1 h1).1
  | map es clock => obtain ⟨es', h1, _⟩ := h; exact (Array.getElem?_eq_some_iff.1 h1).1
  | miter m since seen stepped => obtain ⟨m', h1, _⟩ := h; exact (Array.getElem?_eq_some_iff.1 h1).1
  | siter s pos => exact (Array.getElem?_eq_some_iff.1 h.1).1
  | loop L => obtain ⟨r, h1, _⟩ := h; exact (Array.getElem?_eq_some_iff.1 h1).1
  | nodefers => exact (Array.getElem?_eq_some_iff.1 h).1

theorem MRel.mono {e e' : Emb} (h : e.le e') : ∀ {m m' : Option Nat}, MRel e m m' → MRel e' m m'
  | none, none, _ => trivial
  | some _, some _, ⟨l, hl, hb⟩ => ⟨l, h _ _ hl, hb⟩

/-- It stays so where the block stays, and more is named. -/
theorem ORel.keep {e e' : Emb} (h : e.le e') {o : AObj} {l : Loc} {w w' : World} (hb : w'.heap[l.blk]? = w.heap[l.blk]?) (r : ORel e o l w) : ORel e' o l w' := by
  cases o with
  | cells cs exact fz elem =>
    obtain ⟨c, fr, h1, h2, h3, h4, h5, h6⟩ := r
    exact ⟨c, fr, hb ▸ h1, h2, h3, h4, fun i v x => let ⟨v', y, z⟩ := h5 i v x; ⟨v', y, z.mono h⟩, h6⟩
  | rom cs =>
    obtain ⟨c, elem, fr, h1, h2, h3, h4⟩ := r
    exact ⟨c, elem, fr, hb ▸ h1, h2, h3, fun i v x => let ⟨v', y, z⟩ := h4 i v x; ⟨v', y, z.mono h⟩⟩
  | map es clock =>
    obtain ⟨es', h1, h2, h3⟩ := r
    exact ⟨es', hb ▸ h1, h2, fun i x x' y y' => let ⟨a, b, c⟩ := h3 i x x' y y'; ⟨a.mono h, b.mono h, c⟩⟩
  | miter m since seen stepped =>
    obtain ⟨m', h1, h2, h3⟩ := r
    exact ⟨m', hb ▸ h1, h2.mono h, h3⟩
  | siter s pos => exact ⟨hb.trans r.1, r.2⟩
  | loop L =>
    obtain ⟨r, h1, h2, h3, h4, h5, h6, h7, h8, ld, h9, h10⟩ := r
    exact ⟨r, hb ▸ h1, h2, h3, h4, h5.mono h, h6, h7, h8, ld, h _ _ h9, h10⟩
  | nodefers => exact (hb.trans r : _)

structure Rep (e : Emb) (H : AHeap) (w : World) : Prop where
  obj : ∀ i o, H.t.get i = some o → ∃ l, e i = some l ∧ ORel e o l w
  inj : ∀ i j oi oj li lj, H.t.get i = some oi → H.t.get j = some oj → e i = some li → e j = some lj → li.blk = lj.blk → i = j
  lt : ∀ i o, H.t.get i = some o → i < H.next
  fresh : ∀ i, H.next ≤ i → e i = none

structure Out (e : Emb) (H : AHeap) (w : World) (e' : Emb) (H' : AHeap) (w' : World) : Prop where
  le : e.le e'
  rep : Rep e' H' w'
  next : H.next ≤ H'.next
  ids : ∀ i o, H'.t.get i = some o → (∃ o0, H.t.get i = some o0 ∧ (o.writable = true → o0.writable = true)) ∨ H.next ≤ i
  rom : ∀ i cs, H.t.get i = some (.rom cs) → H'.t.get i = some (.rom cs)
  size : w.heap.size ≤ w'.heap.size
  keep : ∀ b, b < w.heap.size → (∀ i o l, H.t.get i = some o → o.writable = true → e i = some l → l.blk ≠ b) → w'.heap[b]? = w.heap[b]?
  new : ∀ i l, e i = none → e' i = some l → w.heap.size ≤ l.blk ∨ ∃ j o lj, H.t.get j = some o ∧ o.writable = true ∧ e j = some lj ∧ lj.blk = l.blk
  still : ∀ i, i < H.next → e i = none → e' i = none
  os : w'.os = w.os
  output : w'.output = w.output
  tape : w'.tape = w.tape

theorem Out.refl {e : Emb} {H : AHeap} {w : World} (r : Rep e H w) : Out e H w e H w where
  le := Emb.le_refl e
  rep := r
  next := Nat.le_refl _
  ids := fun _ o h => .inl ⟨o, h, id⟩
  rom := fun _ _ h => h
  size := Nat.le_refl _
  keep := fun _ _ _ => rfl
  new := fun i l h h' => by rw [h] at h'; cases h'
  still := fun _ _ h => h
  os := rfl
  output := rfl
  tape := rfl

theorem Out.trans {e e1 e2 : Emb} {H H1 H2 : AHeap} {w w1 w2 : World} (a : Out e H w e1 H1 w1) (b : Out e1 H1 w1 e2 H2 w2) (r : Rep e H w) : Out e H w e2 H2 w2 where
  le := Emb.le_trans a.le b.le
  rep := b.rep
  next := Nat.le_trans a.next b.next
  ids := fun i o h => by
    rcases b.ids i o h with ⟨o1, h1, k1⟩ | h1
    · rcases a.ids i o1 h1 with ⟨o0, h0, k0⟩ | h0
      · exact .inl ⟨o0, h0, fun z => k0 (k1 z)⟩
      · exact .inr h0
    · exact .inr (Nat.le_trans a.next h1)
  rom := fun i cs h => b.rom i cs (a.rom i cs h)
  size := Nat.le_trans a.size b.size
  keep := fun bl hb hn => by
    refine (b.keep bl (Nat.lt_of_lt_of_le hb a.size) ?_).trans (a.keep bl hb hn)
    intro i o l hi hw hl he
    rcases a.ids i o hi with ⟨o0, h0, k0⟩ | h0
    · obtain ⟨l0, hl0, _⟩ := r.obj i o0 h0
      have : l0 = l := by have := a.le i l0 hl0; rw [hl] at this; cases this; rfl
      subst this
      exact hn i o0 l0 h0 (k0 hw) hl0 he
    · rcases a.new i l (r.fresh i h0) hl with h | ⟨j, oj, lj, hj, hwj, hej, hbj⟩
      · omega
      · exact hn j oj lj hj hwj hej (hbj.trans he)
  new := fun i l h h2 => by
    cases h1 : e1 i with
    | some l1 =>
      have : l1 = l := by have := b.le i l1 h1; rw [h2] at this; cases this; rfl
      subst this
      exact a.new i l1 h h1
    | none =>
      rcases b.new i l h1 h2 with h3 | ⟨j, oj, lj, hj, hwj, hej, hbj⟩
      · exact .inl (Nat.le_trans a.size h3)
      · rcases a.ids j oj hj with ⟨o0, h0, k0⟩ | h0
        · obtain ⟨l0, hl0, _⟩ := r.obj j o0 h0
          have : l0 = lj := by have := a.le j l0 hl0; rw [hej] at this; cases this; rfl
          subst this
          exact .inr ⟨j, o0, l0, h0, k0 hwj, hl0, hbj⟩
        · rcases a.new j lj (r.fresh j h0) hej with h | ⟨j', o', l', hj', hw', he', hb'⟩
          · exact .inl (hbj ▸ h)
          · exact .inr ⟨j', o', l', hj', hw', he', hb'.trans hbj⟩
  still := fun i hi h => b.still i (Nat.lt_of_lt_of_le hi a.next) (a.still i hi h)
  os := b.os.trans a.os
  output := b.output.trans a.output
  tape := b.tape.trans a.tape

/-- A heap with less in it. -/
def Sub (K H : AHeap) : Prop := K.next = H.next ∧ ∀ i o, K.t.get i = some o → H.t.get i = some o

theorem Rep.sub {e : Emb} {K H : AHeap} {w : World} (r : Rep e H w) (s : Sub K H) : Rep e K w where
  obj := fun i o h => r.obj i o (s.2 i o h)
  inj := fun i j oi oj li lj hi hj => r.inj i j oi oj li lj (s.2 i oi hi) (s.2 j oj hj)
  lt := fun i o h => s.1 ▸ r.lt i o (s.2 i o h)
  fresh := fun i h => r.fresh i (s.1 ▸ h)

/-- H' is what became of K, beside what H has besides K. -/
structure Beside (K H K' H' : AHeap) : Prop where
  next : H'.next = K'.next
  mine : ∀ i o, K'.t.get i = some o → H'.t.get i = some o
  other : ∀ i o, K.t.get i = none → H.t.get i = some o → H'.t.get i = some o
  back : ∀ i o, H'.t.get i = some o → K'.t.get i = some o ∨ (K.t.get i = none ∧ H.t.get i = some o)

theorem Out.beside {e e' : Emb} {K H K' H' : AHeap} {w w' : World} (r : Rep e H w) (s : Sub K H) (o : Out e K w e' K' w') (b : Beside K H K' H') (hrom : ∀ i cs, H.t.get i = some (.rom cs) → K.t.get i = none ∨ K.t.get i = some (.rom cs)) :
    Out e H w e' H' w' := by
  -- what lies beside K lies on
  have aside : ∀ i ob, K.t.get i = none → H.t.get i = some ob → ∃ l, e i = some l ∧ e' i = some l ∧ ORel e' ob l w' ∧ l.blk < w.heap.size ∧ (∀ j oj lj, K.t.get j = some oj → oj.writable = true → e j = some lj → lj.blk ≠ l.blk) := by
    intro i ob hk hi
    obtain ⟨l, hl, hr⟩ := r.obj i ob hi
    have hne : ∀ j oj lj, K.t.get j = some oj → oj.writable = true → e j = some lj → lj.blk ≠ l.blk := by
      intro j oj lj hj _ hej hb
      have : j = i := r.inj j i oj ob lj l (s.2 j oj hj) hi hej hl hb
      subst this; rw [hk] at hj; cases hj
    exact ⟨l, hl, o.le i l hl, hr.keep o.le (o.keep l.blk hr.there hne), hr.there, hne⟩
  -- no place of what became of K is a place of what lies beside
  have apart : ∀ i ob j oj li lj, K'.t.get i = some ob → K.t.get j = none → H.t.get j = some oj → e' i = some li → e' j = some lj → li.blk = lj.blk → False := by
    intro i ob j oj li lj hi hk hj hei hej hb
    obtain ⟨l, hl, hl', _, hlt, hne⟩ := aside j oj hk hj
    rw [hl'] at hej; cases hej
    rcases o.ids i ob hi with ⟨o0, h0, _⟩ | h0
    · obtain ⟨l0, hl0, _⟩ := r.obj i o0 (s.2 i o0 h0)
      obtain rfl : l0 = li := by have := o.le i l0 hl0; rw [hei] at this; cases this; rfl
      have := r.inj i j o0 oj _ _ (s.2 i o0 h0) hj hl0 hl hb
      subst this; rw [hk] at h0; cases h0
    · have hnone : e i = none := r.fresh i (s.1 ▸ h0)
      rcases o.new i li hnone hei with h | ⟨j', oj', lj', hj', hw', he', hb'⟩
      · omega
      · exact hne j' oj' lj' hj' hw' he' (hb'.trans hb)
  refine { le := o.le, rep := ?_, next := ?_, ids := ?_, rom := ?_, size := o.size, keep := ?_, new := ?_, still := fun i hi h => o.still i (s.1 ▸ hi) h, os := o.os, output := o.output, tape := o.tape }
  · refine { obj := ?_, inj := ?_, lt := ?_, fresh := ?_ }
    · intro i ob hi
      rcases b.back i ob hi with h | ⟨hk, h⟩
      · exact o.rep.obj i ob h
      · obtain ⟨l, _, hl', hr, _⟩ := aside i ob hk h
        exact ⟨l, hl', hr⟩
    · intro i j oi oj li lj hi hj hei hej hb
      rcases b.back i oi hi with h | ⟨hk, h⟩ <;> rcases b.back j oj hj with h' | ⟨hk', h'⟩
      · exact o.rep.inj i j oi oj li lj h h' hei hej hb
      · exact (apart i oi j oj li lj h hk' h' hei hej hb).elim
      · exact (apart j oj i oi lj li h' hk h hej hei hb.symm).elim
      · obtain ⟨l, hl, hl', _⟩ := aside i oi hk h
        obtain ⟨l2, hl2, hl2', _⟩ := aside j oj hk' h'
        rw [hl'] at hei; rw [hl2'] at hej; cases hei; cases hej
        exact r.inj i j oi oj li lj h h' hl hl2 hb
    · intro i ob hi
      rw [b.next]
      rcases b.back i ob hi with h | ⟨hk, h⟩
      · exact o.rep.lt i ob h
      · exact Nat.lt_of_lt_of_le (r.lt i ob h) (s.1 ▸ o.next)
    · intro i hi; exact o.rep.fresh i (b.next ▸ hi)
  · rw [b.next, ← s.1]; exact o.next
  · intro i ob hi
    rcases b.back i ob hi with h | ⟨hk, h⟩
    · rcases o.ids i ob h with ⟨o0, h0, k0⟩ | h0
      · exact .inl ⟨o0, s.2 i o0 h0, k0⟩
      · exact .inr (s.1 ▸ h0)
    · exact .inl ⟨ob, h, id⟩
  · intro i cs hi
    rcases hrom i cs hi with h | h
    · exact b.other i _ h hi
    · exact b.mine i _ (o.rom i cs h)
  · intro bl hb hn
    exact o.keep bl hb fun i ob l hi hw hl => hn i ob l (s.2 i ob hi) hw hl
  · intro i l h h'
    rcases o.new i l h h' with h1 | ⟨j, oj, lj, hj, hw, he, hb⟩
    · exact .inl h1
    · exact .inr ⟨j, oj, lj, s.2 j oj hj, hw, he, hb⟩

/-- Draws alone turn nothing. -/
theorem Out.drawn {e : Emb} {H : AHeap} {w : World} {e' : Emb} {H' : AHeap} {w' : World} (n : Nat) (o : Out e H w e' H' w') : Out e H w e' H' { w' with drawn := n } where
  le := o.le
  rep := ⟨fun i ob h => let ⟨l, a, b⟩ := o.rep.obj i ob h; ⟨l, a, ORel.keep (w := w') (Emb.le_refl _) rfl b⟩, o.rep.inj, o.rep.lt, o.rep.fresh⟩
  next := o.next
  ids := o.ids
  rom := o.rom
  size := o.size
  keep := o.keep
  new := o.new
  still := o.still
  os := o.os
  output := o.output
  tape := o.tape

/-- A new object, at the heap's end. -/
theorem Out.alloc {e : Emb} {H : AHeap} {w : World} (r : Rep e H w) (o : AObj) (ob : Obj) (av : Nat)
    (ho : ORel (e.add H.next ⟨w.heap.size, 0, av⟩) o ⟨w.heap.size, 0, av⟩ { w with heap := w.heap.push ob }) :
    Out e H w (e.add H.next ⟨w.heap.size, 0, av⟩) ⟨H.t.set H.next (some o), H.next + 1⟩ { w with heap := w.heap.push ob } := by
  have hn : e H.next = none := r.fresh _ (Nat.le_refl _)
  have hle := Emb.le_add (e := e) ⟨w.heap.size, 0, av⟩ hn
  have hold : ∀ b, b < w.heap.size → (w.heap.push ob)[b]? = w.heap[b]? := fun b hb => by rw [Array.getElem?_push_lt hb]; simp [hb]
  have hget : ∀ i x, (H.t.set H.next (some o)).get i = some x → (i = H.next ∧ x = o) ∨ (i ≠ H.next ∧ H.t.get i = some x) := by
    intro i x h
    rw [Tr.get_set] at h
    split at h
    · rename_i hi; cases h; exact .inl ⟨hi, rfl⟩
    · rename_i hi; exact .inr ⟨hi, h⟩
  have hother : ∀ i x, H.t.get i = some x → i ≠ H.next := fun i x h => by have := r.lt i x h; omega
  have hadd : ∀ i, i ≠ H.next → e.add H.next ⟨w.heap.size, 0, av⟩ i = e i := fun i hi => by simp [Emb.add, hi]
  refine { le := hle, rep := ?_, next := by simp, ids := ?_, rom := ?_, size := by simp, keep := ?_, new := ?_, still := fun i hi h => by rw [hadd i (by omega)]; exact h, os := rfl, output := rfl, tape := rfl }
  · refine { obj := ?_, inj := ?_, lt := ?_, fresh := ?_ }
    · intro i x h
      rcases hget i x h with ⟨rfl, rfl⟩ | ⟨hi, h⟩
      · exact ⟨_, Emb.add_self _ _ _, ho⟩
      · obtain ⟨l, hl, hr⟩ := r.obj i x h
        exact ⟨l, by rw [hadd i hi]; exact hl, hr.keep hle (hold _ hr.there)⟩
    · intro i j oi oj li lj hi hj hei hej hb
      rcases hget i oi hi with ⟨hi', hi1⟩ | ⟨hi', hi2⟩ <;> rcases hget j oj hj with ⟨hj', hj1⟩ | ⟨hj', hj2⟩
      · rw [hi', hj']
      · subst hi'
        rw [Emb.add_self] at hei; rw [hadd j hj'] at hej; cases hei
        obtain ⟨l, hl, hr⟩ := r.obj j oj hj2
        rw [hl] at hej; cases hej
        have := hr.there; simp at hb; omega
      · subst hj'
        rw [Emb.add_self] at hej; rw [hadd i hi'] at hei; cases hej
        obtain ⟨l, hl, hr⟩ := r.obj i oi hi2
        rw [hl] at hei; cases hei
        have := hr.there; simp at hb; omega
      · rw [hadd i hi'] at hei; rw [hadd j hj'] at hej
        exact r.inj i j oi oj li lj hi2 hj2 hei hej hb
    · intro i x h
      rcases hget i x h with ⟨rfl, rfl⟩ | ⟨_, h⟩
      · simp
      · have := r.lt i x h; simp; omega
    · intro i hi
      simp at hi
      rw [hadd i (by omega)]
      exact r.fresh i (by omega)
  · intro i x h
    rcases hget i x h with ⟨rfl, rfl⟩ | ⟨_, h⟩
    · exact .inr (Nat.le_refl _)
    · exact .inl ⟨x, h, id⟩
  · intro i cs h
    simp only
    rw [Tr.get_set, if_neg (hother i _ h)]; exact h
  · intro b hb _; exact hold b hb
  · intro i l h h'
    by_cases hi : i = H.next
    · subst hi; rw [Emb.add_self] at h'; cases h'; exact .inl (Nat.le_refl _)
    · rw [hadd i hi, h] at h'; cases h'

/-- An object is forgotten. -/
theorem Out.forget {e : Emb} {H : AHeap} {w : World} (r : Rep e H w) (i : Nat) (hnr : ∀ cs, H.t.get i ≠ some (.rom cs)) : Out e H w e ⟨H.t.set i none, H.next⟩ w := by
  have hget : ∀ j x, (H.t.set i none).get j = some x → H.t.get j = some x := by
    intro j x h
    rw [Tr.get_set] at h
    split at h
    · cases h
    · exact h
  have hrep : Rep e ⟨H.t.set i none, H.next⟩ w :=
    { obj := fun j x h => r.obj j x (hget j x h)
      inj := fun j k oj ok2 lj lk hj hk2 => r.inj j k oj ok2 lj lk (hget _ _ hj) (hget _ _ hk2)
      lt := fun j x h => r.lt j x (hget j x h)
      fresh := r.fresh }
  refine { le := Emb.le_refl e, rep := hrep, next := Nat.le_refl _, ids := fun j x h => .inl ⟨x, hget j x h, id⟩, rom := ?_, size := Nat.le_refl _, keep := fun _ _ _ => rfl, new := ?_, still := fun _ _ h => h, os := rfl, output := rfl, tape := rfl }
  · intro j cs h
    simp only
    rw [Tr.get_set]
    split
    · rename_i hj; subst hj; exact absurd h (hnr cs)
    · exact h
  · intro j l h h'; rw [h] at h'; cases h'

/-- An object's block is turned, and nothing else. -/
theorem Out.turn {e : Emb} {H : AHeap} {w : World} (r : Rep e H w) {i : Nat} {o : AObj} {l : Loc} (hi : H.t.get i = some o) (hw : o.writable = true) (hl : e i = some l) (o' : AObj) (hw' : ∀ cs, o' ≠ .rom cs) (w' : World)
    (hs : w'.heap.size = w.heap.size) (hk : ∀ b, b ≠ l.blk → w'.heap[b]? = w.heap[b]?) (hos : w'.os = w.os) (hout : w'.output = w.output) (ht : w'.tape = w.tape)
    (ho : ORel e o' l w') : Out e H w e ⟨H.t.set i (some o'), H.next⟩ w' := by
  have hget : ∀ j x, (H.t.set i (some o')).get j = some x → (j = i ∧ x = o') ∨ (j ≠ i ∧ H.t.get j = some x) := by
    intro j x h
    rw [Tr.get_set] at h
    split at h
    · rename_i hj; cases h; exact .inl ⟨hj, rfl⟩
    · rename_i hj; exact .inr ⟨hj, h⟩
  have hidx : ∀ j x, (H.t.set i (some o')).get j = some x → ∃ y, H.t.get j = some y ∧ (x.writable = true → y.writable = true) := by
    intro j x h
    rcases hget j x h with ⟨rfl, rfl⟩ | ⟨_, h⟩
    · exact ⟨o, hi, fun _ => hw⟩
    · exact ⟨x, h, id⟩
  refine { le := Emb.le_refl e, rep := ?_, next := Nat.le_refl _, ids := fun j x h => .inl (hidx j x h), rom := ?_, size := by omega, keep := ?_, new := ?_, still := fun _ _ h => h, os := hos, output := hout, tape := ht }
  · refine { obj := ?_, inj := ?_, lt := ?_, fresh := r.fresh }
    · intro j x h
      rcases hget j x h with ⟨rfl, rfl⟩ | ⟨hj, h⟩
      · exact ⟨l, hl, ho⟩
      · obtain ⟨lj, hlj, hr⟩ := r.obj j x h
        refine ⟨lj, hlj, hr.keep (Emb.le_refl _) (hk _ ?_)⟩
        intro hb
        exact hj (r.inj j i x o lj l h hi hlj hl hb)
    · intro j k oj ok lj lk hj hk' hej hek hb
      obtain ⟨y, hy, _⟩ := hidx j oj hj
      obtain ⟨z, hz, _⟩ := hidx k ok hk'
      exact r.inj j k y z lj lk hy hz hej hek hb
    · intro j x h
      obtain ⟨y, hy, _⟩ := hidx j x h
      exact r.lt j y hy
  · intro j cs h
    simp only
    rw [Tr.get_set]
    split
    · rename_i hj; subst hj; rw [hi] at h; cases h; simp [AObj.writable] at hw
    · exact h
  · intro b hb hn
    exact hk b fun hbl => hn i o l hi hw hl hbl.symm
  · intro j lj h h'; rw [h] at h'; cases h'

/-- Names are laid by. -/
theorem Out.reserve {e : Emb} {H : AHeap} {w : World} (r : Rep e H w) (n : Nat) : Out e H w e ⟨H.t, H.next + n⟩ w where
  le := Emb.le_refl e
  rep := ⟨r.obj, r.inj, fun i o h => Nat.lt_of_lt_of_le (r.lt i o h) (Nat.le_add_right _ _), fun i h => r.fresh i (Nat.le_trans (Nat.le_add_right _ _) h)⟩
  next := Nat.le_add_right _ _
  ids := fun _ o h => .inl ⟨o, h, id⟩
  rom := fun _ _ h => h
  size := Nat.le_refl _
  keep := fun _ _ _ => rfl
  new := fun i l h h' => by rw [h] at h'; cases h'
  still := fun _ _ h => h
  os := rfl
  output := rfl
  tape := rfl

/-- A new object under a name that was laid by. -/
theorem Out.allocAt {e0 e : Emb} {H0 H : AHeap} {w0 w : World} (o : Out e0 H0 w0 e H w) {i : Nat} (h1 : H0.next ≤ i) (h2 : i < H.next) (h3 : e i = none) (h4 : H.t.get i = none) (obj : AObj) (ob : Obj) (av : Nat)
    (ho : ORel (e.add i ⟨w.heap.size, 0, av⟩) obj ⟨w.heap.size, 0, av⟩ { w with heap := w.heap.push ob }) :
    Out e0 H0 w0 (e.add i ⟨w.heap.size, 0, av⟩) ⟨H.t.set i (some obj), H.next⟩ { w with heap := w.heap.push ob } := by
  have r := o.rep
  have hle := Emb.le_add (e := e) ⟨w.heap.size, 0, av⟩ h3
  have hold : ∀ b, b < w.heap.size → (w.heap.push ob)[b]? = w.heap[b]? := fun b hb => by rw [Array.getElem?_push_lt hb]; simp [hb]
  have hget : ∀ j x, (H.t.set i (some obj)).get j = some x → (j = i ∧ x = obj) ∨ (j ≠ i ∧ H.t.get j = some x) := by
    intro j x h
    rw [Tr.get_set] at h
    split at h
    · rename_i hi; cases h; exact .inl ⟨hi, rfl⟩
    · rename_i hi; exact .inr ⟨hi, h⟩
  have hadd : ∀ j, j ≠ i → e.add i ⟨w.heap.size, 0, av⟩ j = e j := fun j hj => by simp [Emb.add, hj]
  refine { le := Emb.le_trans o.le hle, rep := ?_, next := o.next, ids := ?_, rom := ?_, size := by have := o.size; simp; omega, keep := ?_, new := ?_, still := ?_, os := o.os, output := o.output, tape := o.tape }
  · refine { obj := ?_, inj := ?_, lt := ?_, fresh := ?_ }
    · intro j x h
      rcases hget j x h with ⟨rfl, rfl⟩ | ⟨hj, h⟩
      · exact ⟨_, Emb.add_self _ _ _, ho⟩
      · obtain ⟨l, hl, hr⟩ := r.obj j x h
        exact ⟨l, by rw [hadd j hj]; exact hl, hr.keep hle (hold _ hr.there)⟩
    · intro j k oj ok2 lj lk hj hk hej hek hb
      rcases hget j oj hj with ⟨hj', hj1⟩ | ⟨hj', hj2⟩ <;> rcases hget k ok2 hk with ⟨hk', hk1⟩ | ⟨hk', hk2⟩
      · rw [hj', hk']
      · subst hj'
        rw [Emb.add_self] at hej; rw [hadd k hk'] at hek; cases hej
        obtain ⟨l, hl, hr⟩ := r.obj k ok2 hk2
        rw [hl] at hek; cases hek
        have := hr.there; simp at hb; omega
      · subst hk'
        rw [Emb.add_self] at hek; rw [hadd j hj'] at hej; cases hek
        obtain ⟨l, hl, hr⟩ := r.obj j oj hj2
        rw [hl] at hej; cases hej
        have := hr.there; simp at hb; omega
      · rw [hadd j hj'] at hej; rw [hadd k hk'] at hek
        exact r.inj j k oj ok2 lj lk hj2 hk2 hej hek hb
    · intro j x h
      rcases hget j x h with ⟨rfl, rfl⟩ | ⟨_, h⟩
      · exact h2
      · exact r.lt j x h
    · intro j hj
      simp only at hj
      rw [hadd j (by omega)]
      exact r.fresh j hj
  · intro j x h
    rcases hget j x h with ⟨rfl, rfl⟩ | ⟨_, h⟩
    · exact .inr h1
    · exact o.ids j x h
  · intro j cs h
    have hj := o.rom j cs h
    simp only
    rw [Tr.get_set, if_neg]
    · exact hj
    · intro hji; subst hji; rw [h4] at hj; cases hj
  · intro b hb hn
    exact (hold b (Nat.lt_of_lt_of_le hb o.size)).trans (o.keep b hb hn)
  · intro j l hj hjl
    by_cases hji : j = i
    · subst hji; rw [Emb.add_self] at hjl; cases hjl; exact .inl o.size
    · rw [hadd j hji] at hjl; exact o.new j l hj hjl
  · intro j hj h
    rw [hadd j (by omega)]
    exact o.still j hj h

end Go.WeftN
