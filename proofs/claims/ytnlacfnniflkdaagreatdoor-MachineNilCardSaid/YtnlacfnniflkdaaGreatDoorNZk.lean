/- A function that makes one list of plain values, whatever the heap: found by one run. Library functions without a text. -/
import Derived.Test.YtnlacfnniflkdaaGreatDoorNZj
import Derived.Laws.Externs
import Derived.Lib.Bytealg
namespace Go.WeftN

theorem plain0_any {v : Value} (h : plainB 0 v = true) {e e' : Emb} {v' : Value} (r : VRel e v v') : VRel e' v v' := by
  cases r with
  | poison v => simp [plainB] at h
  | bool b => exact .bool b
  | int k n => exact .int k n
  | string s => exact .string s
  | nilPtr => exact .nilPtr
  | nilSlice => exact .nilSlice
  | nilMap => exact .nilMap
  | nilFunc => exact .nilFunc
  | nilIface => exact .nilIface
  | ptr h2 => simp [plainB] at h
  | slice h2 => simp [plainB] at h
  | empty a c => simp [plainB] at h
  | map h2 => simp [plainB] at h
  | func => simp [plainB] at h
  | iface t h2 => simp [plainB] at h
  | agg => simp [plainB] at h
  | tuple => simp [plainB] at h

/-- A list of plain values, to be made. -/
def mkList (vs : List Value) (fz : Nat) (elem : TypeId) (len E : Nat) : Mk := ⟨.cells vs true fz elem, fun id => .slice (some ⟨id, 0, none⟩) len E⟩

noncomputable def listChk (vs : List Value) (fz : Nat) (elem : TypeId) (len E : Nat) : Option (List Res) → Bool
  | some rs => rs.all fun
    | .call (.ret (.slice (some ⟨id, off, none⟩) len' E')) _ H => Nat.beq off 0 && Nat.beq len' len && Nat.beq E' E && (match H.t.get id with
      | some o => objEq o (.cells vs true fz elem)
      | none => false)
    | _ => false
  | none => false

def allPlain0 : List Value → Bool
  | [] => true
  | v :: l => plainB 0 v && allPlain0 l
theorem allPlain0_get : ∀ {l : List Value}, allPlain0 l = true → ∀ (i : Nat) (v : Value), l[i]? = some v → plainB 0 v = true
  | [], _, i, v, h => by simp at h
  | u :: l, h, 0, v, hv => by
    simp only [allPlain0, Bool.and_eq_true] at h
    simp at hv; subst hv; exact h.1
  | u :: l, h, i + 1, v, hv => by
    simp only [allPlain0, Bool.and_eq_true] at h
    exact allPlain0_get h.2 i v (by simpa using hv)

theorem orc_of {P : Program} {T : Tab} {rt : Tr} (hrt : OnlyRom rt) (hpl : ∀ i cs, rt.get i = some (.rom cs) → allPlain0 cs = true) {ec : EC} (hec : Meets P T (romR rt) ec) {nx : Nat} (hnx : ∀ i o, rt.get i = some o → i < nx)
    (hgl : ∀ g, T.E.glob g = true → ∃ cs, rt.get g = some (.rom cs)) {f : FuncId} {F : Func} (hF : P.funcs[f]? = some F) (hnm : (F.name == "runtime.NumGoroutine") = false) (hbd : F.body.isSome = true)
    {vs : List Value} {fz : Nat} {elem : TypeId} {len E : Nat} (hvs : allPlain0 vs = true) (h : listChk vs fz elem len E (ec (.call f [] false none) ⟨rt, nx⟩) = true) :
    ∀ (e : Emb) (H : AHeap) (w : World) (args' : List Value), Rep e H w → Base T (romR rt) e H → LRel e [] args' →
      (∀ w0, (callFunc f args'.toArray).run P w0 = .ok (.enter f args'.toArray) w0) ∧
        Calls P f args'.toArray w fun en w' => ∃ v' e', en = .returned v' ∧ Out e H w e' ⟨H.t.set H.next (some (mkList vs fz elem len E).obj), H.next + 1⟩ w' ∧ VRel e' ((mkList vs fz elem len E).val H.next) v' := by
  intro e H w args' r hb hargs
  refine ⟨fun w0 => run_callFunc hF hnm hbd _ w0, ?_⟩
  let e2 : Emb := fun i => match rt.get i with
    | some _ => e i
    | none => none
  have he2 : ∀ i o, rt.get i = some o → e2 i = e i := fun i o h => by simp only [e2, h]
  have he2n : ∀ i, rt.get i = none → e2 i = none := fun i h => by simp only [e2, h]
  have hrom : ∀ i cs, rt.get i = some (.rom cs) → H.t.get i = some (.rom cs) := fun i cs h => hb.rom i cs (romR_get.2 h)
  have rK : Rep e2 ⟨rt, nx⟩ w := by
    refine ⟨?_, ?_, hnx, ?_⟩
    · intro i o hi
      obtain ⟨cs, rfl⟩ := hrt i o hi
      obtain ⟨l, hl, c, el, fr, h1, h2, h3, h4⟩ := r.obj i _ (hrom i cs hi)
      refine ⟨l, (he2 i _ hi).trans hl, c, el, fr, h1, h2, h3, fun j v hj => ?_⟩
      obtain ⟨v', h5, h6⟩ := h4 j v hj
      exact ⟨v', h5, plain0_any (allPlain0_get (hpl i cs hi) j v hj) h6⟩
    · intro i j oi oj li lj hi hj hei hej hbl
      obtain ⟨cs, rfl⟩ := hrt i oi hi
      obtain ⟨ds, rfl⟩ := hrt j oj hj
      exact r.inj i j _ _ li lj (hrom i cs hi) (hrom j ds hj) ((he2 i _ hi).symm.trans hei) ((he2 j _ hj).symm.trans hej) hbl
    · intro i hi
      cases hg : rt.get i with
      | none => exact he2n i hg
      | some o => have h1 := hnx i o hg; simp only at hi; omega
  have hbK : Base T (romR rt) e2 ⟨rt, nx⟩ := by
    refine ⟨fun g hg => ?_, fun i cs hi => romR_get.1 hi⟩
    obtain ⟨cs, hcs⟩ := hgl g hg
    obtain ⟨av, ha⟩ := hb.glob g hg
    exact ⟨av, (he2 g _ hcs).trans ha⟩
  have hn : e H.next = none := r.fresh _ (Nat.le_refl _)
  intro cs
  unfold listChk at h
  split at h
  · rename_i rs hrs
    obtain ⟨o, up', H1, hin, e2', w', m', fr, en, ho, hu', hst, hfn, hkind, hgo, hres⟩ := hec _ _ _ hrs e2 w cs .run args' rK hbK (by rw [hargs.nil_inv]; exact .nil e2) (fun h => by cases h) (fun h => by cases h)
    rw [List.all_eq_true] at h
    have h1 := h _ hin
    split at h1
    rotate_left
    · cases h1
    rename_i x id off len' E' up'' H1 hx
    cases hx
    simp only [Bool.and_eq_true] at h1
    obtain ⟨⟨⟨ho0, hl0⟩, hE0⟩, hob⟩ := h1
    obtain rfl := Nat.eq_of_beq_eq_true ho0
    obtain rfl := Nat.eq_of_beq_eq_true hl0
    obtain rfl := Nat.eq_of_beq_eq_true hE0
    split at hob
    rotate_left
    · cases hob
    rename_i ob hgob
    obtain ⟨hob, _⟩ := objEq_eq hob
    subst hob
    obtain ⟨v', rfl, hv'⟩ := hres
    obtain ⟨l, hl, horel⟩ := ho.rep.obj id _ hgob
    have hidn : rt.get id = none := by
      cases hg : rt.get id with
      | none => rfl
      | some u =>
        obtain ⟨ds, rfl⟩ := hrt id u hg
        have := ho.rom id ds hg
        rw [hgob] at this; cases this
    have hnw : ∀ (j : Nat) (oj : AObj), rt.get j = some oj → oj.writable = false := by
      intro j oj hj
      obtain ⟨ds, rfl⟩ := hrt j oj hj
      rfl
    have hlsz : w.heap.size ≤ l.blk := by
      rcases ho.new id l (he2n id hidn) hl with h | ⟨j, oj, lj, hj, hwj, _⟩
      · exact h
      · rw [hnw j oj hj] at hwj; cases hwj
    have hkeep : ∀ b, b < w.heap.size → w'.heap[b]? = w.heap[b]? := fun b hb => ho.keep b hb fun i o l hi hw _ => by rw [hnw i o hi] at hw; cases hw
    have hadd : ∀ i, i ≠ H.next → e.add H.next l i = e i := fun i hi => by simp [Emb.add, hi]
    have hle := Emb.le_add (e := e) l hn
    have hO : Out e H w (e.add H.next l) ⟨H.t.set H.next (some (.cells vs true fz elem)), H.next + 1⟩ w' := by
      have hget : ∀ i x, (H.t.set H.next (some (AObj.cells vs true fz elem))).get i = some x → (i = H.next ∧ x = .cells vs true fz elem) ∨ (i ≠ H.next ∧ H.t.get i = some x) := by
        intro i x h
        rw [Tr.get_set] at h
        split at h
        · rename_i hi; cases h; exact .inl ⟨hi, rfl⟩
        · rename_i hi; exact .inr ⟨hi, h⟩
      refine { le := hle, rep := ⟨?_, ?_, ?_, ?_⟩, next := by simp, ids := ?_, rom := ?_, size := ho.size, keep := fun b hb _ => hkeep b hb, new := ?_, still := fun i hi h => by rw [hadd i (by omega)]; exact h, os := ho.os, output := ho.output, tape := ho.tape }
      · intro i x h
        rcases hget i x h with ⟨rfl, rfl⟩ | ⟨hi, h⟩
        · refine ⟨l, Emb.add_self _ _ _, ?_⟩
          obtain ⟨c, fr, h1, h2, h3, h4, h5, h6⟩ := horel
          exact ⟨c, fr, h1, h2, h3, h4, fun j v hj => let ⟨u, a, b⟩ := h5 j v hj; ⟨u, a, plain0_any (allPlain0_get hvs j v hj) b⟩, h6⟩
        · obtain ⟨li, hli, hr⟩ := r.obj i x h
          exact ⟨li, by rw [hadd i hi]; exact hli, hr.keep hle (hkeep _ hr.there)⟩
      · intro i j oi oj li lj hi hj hei hej hbl
        rcases hget i oi hi with ⟨hi', hi1⟩ | ⟨hi', hi2⟩ <;> rcases hget j oj hj with ⟨hj', hj1⟩ | ⟨hj', hj2⟩
        · rw [hi', hj']
        · subst hi'
          rw [Emb.add_self] at hei; rw [hadd j hj'] at hej; cases hei
          obtain ⟨l2, hl2, hr⟩ := r.obj j oj hj2
          rw [hl2] at hej; cases hej
          have := hr.there; omega
        · subst hj'
          rw [Emb.add_self] at hej; rw [hadd i hi'] at hei; cases hej
          obtain ⟨l2, hl2, hr⟩ := r.obj i oi hi2
          rw [hl2] at hei; cases hei
          have := hr.there; omega
        · rw [hadd i hi'] at hei; rw [hadd j hj'] at hej
          exact r.inj i j oi oj li lj hi2 hj2 hei hej hbl
      · intro i x h
        rcases hget i x h with ⟨rfl, rfl⟩ | ⟨_, h⟩
        · simp
        · have := r.lt i x h; simp; omega
      · intro i hi
        simp at hi
        rw [hadd i (by omega)]
        exact r.fresh i (by omega)
      · intro i x h
        rcases hget i x h with ⟨rfl, rfl⟩ | ⟨_, h⟩
        · exact .inr (Nat.le_refl _)
        · exact .inl ⟨x, h, fun z => z⟩
      · intro i cs2 h
        simp only
        have hlt := r.lt i _ h
        rw [Tr.get_set, if_neg (by omega)]; exact h
      · intro i l2 h h'
        by_cases hi : i = H.next
        · subst hi; rw [Emb.add_self] at h'; cases h'; exact .inl hlsz
        · rw [hadd i hi, h] at h'; cases h'
    obtain ⟨g1, g2, g3⟩ := hgo
    refine ⟨.returned v', w', fr, ⟨v', _, rfl, hO, ?_⟩, hst, hfn, ⟨g1, g2, hkind, g3⟩⟩
    show VRel (e.add H.next l) (.slice (some ⟨H.next, 0, none⟩) len' E') v'
    cases hv' with
    | slice hl2 hE hlen hav =>
      rw [hl] at hl2; cases hl2
      exact .slice (Emb.add_self _ _ _) hE hlen hav
  · cases h

/-! ### Library functions without a text -/
def ixBy : List UInt8 → Nat → Nat → Int
  | [], _, _ => -1
  | b :: l, c, i => bif Nat.beq b.toNat c then Int.ofNat i else ixBy l c (i + 1)

theorem ixBy_eq (c : Int) : ∀ (l : List UInt8) (i : Nat), 0 ≤ c → c < 256 → ixBy l c.toNat i = if Lib.indexByte l c.toNat.toUInt8 = -1 then -1 else Lib.indexByte l c.toNat.toUInt8 + i
  | [], i, _, _ => by simp [ixBy, Lib.indexByte]
  | b :: l, i, h0, h1 => by
    have ih := ixBy_eq c l (i + 1) h0 h1
    have hge := Lib.indexByte_ge l c.toNat.toUInt8
    show (bif Nat.beq b.toNat c.toNat then Int.ofNat i else ixBy l c.toNat (i + 1)) = _
    have hbc : (b == c.toNat.toUInt8) = Nat.beq b.toNat c.toNat := by
      cases h : Nat.beq b.toNat c.toNat with
      | true =>
        have := Nat.eq_of_beq_eq_true h
        rw [beq_iff_eq, ← this]
        simp
      | false =>
        rw [beq_eq_false_iff_ne]
        intro he
        have : b.toNat = c.toNat := by
          rw [he]
          simp
          omega
        rw [this, Nat.beq_refl] at h; cases h
    simp only [Lib.indexByte, hbc]
    cases Nat.beq b.toNat c.toNat with
    | true => simp
    | false =>
      rw [cond_false, ih]
      simp only [Bool.false_eq_true, if_false]
      by_cases hm : Lib.indexByte l c.toNat.toUInt8 = -1
      · simp [hm]
      · have hm2 : ¬ (Lib.indexByte l c.toNat.toUInt8 + 1 = -1) := by omega
        have hmb : (Lib.indexByte l c.toNat.toUInt8 == -1) = false := by simpa using hm
        simp only [hmb, Bool.false_eq_true, if_false, hm2, hm]
        omega

def indexByteV : List Value → Option Eff
  | [.string s, .int .u8 c] => bif Int.natAbs c < 256 && decide (0 ≤ c) then some (.pure (.int .i64 (ixBy s.data.toList c.toNat 0))) else none
  | _ => none

theorem indexByteV_ok {P : Program} {f : FuncId} {F : Func} (hF : P.funcs[f]? = some F) (hnm : (F.name == "runtime.NumGoroutine") = false) (hbd : F.body.isNone = true) (hn : Extern.findNext F = none) (hfd : Extern.find F = some Extern.BytealgIndexByte.indexByte)
    {args : List Value} {x : Eff} (h : indexByteV args = some x) (e : Emb) (args' : List Value) (r : LRel e args args') : EffOk P e (callFunc f args'.toArray) x := by
  unfold indexByteV at h
  split at h
  · rename_i s c
    cases hb : (decide (Int.natAbs c < 256) && decide (0 ≤ c)) with
    | false => rw [hb] at h; cases h
    | true =>
      rw [hb, cond_true] at h; cases h
      simp only [Bool.and_eq_true, decide_eq_true_eq] at hb
      obtain ⟨a', b', rfl, h1, h2⟩ := r.uncons
      obtain ⟨c', d', rfl, h3, h4⟩ := h2.uncons
      obtain rfl := h4.nil_inv
      cases h1
      cases h3
      intro w
      refine ⟨_, ?_, .int _ _⟩
      rw [run_callFunc_extern hF hnm hbd hn hfd]
      rw [show ([Value.string s, Value.int .u8 c].toArray) = #[.string s, .int .u8 c] from rfl, Lib.run_indexByteString]
      simp only [Result.andThen_ok]
      rw [ixBy_eq c _ 0 hb.2 (by omega)]
      simp only [Int.natCast_zero, Int.add_zero]
      congr 3
      by_cases hm : Lib.indexByte s.data.toList c.toNat.toUInt8 = -1
      · simp [hm]
      · simp [hm]
  · cases h

def sameV : List Value → Option Eff
  | [v] => some (.pure v)
  | _ => none

theorem sameV_ok {P : Program} {f : FuncId} {F : Func} (hF : P.funcs[f]? = some F) (hnm : (F.name == "runtime.NumGoroutine") = false) (hbd : F.body.isNone = true) (hn : Extern.findNext F = none) (hfd : Extern.find F = some Extern.AbiNoEscape.same)
    {args : List Value} {x : Eff} (h : sameV args = some x) (e : Emb) (args' : List Value) (r : LRel e args args') : EffOk P e (callFunc f args'.toArray) x := by
  unfold sameV at h
  split at h
  · cases h
    obtain ⟨a', b', rfl, h1, h2⟩ := r.uncons
    obtain rfl := h2.nil_inv
    intro w
    refine ⟨a', ?_, h1⟩
    rw [run_callFunc_extern hF hnm hbd hn hfd]
    rfl
  · cases h

/-! ### Structs that are held against each other -/
def descB : TypeDesc → TypeDesc → Bool
  | .int a, .int b => decide (a = b)
  | .string, .string => true
  | .bool, .bool => true
  | _, _ => false
theorem descB_eq {a b : TypeDesc} (h : descB a b = true) : a = b := by
  unfold descB at h
  split at h
  · simp at h; rw [h]
  · rfl
  · rfl
  · cases h

def fieldsB (P : Program) : List Field → List (Nat × TypeDesc) → Bool
  | [], [] => true
  | f :: fs, (o, d) :: l => !(f.name == "_") && Nat.beq f.offset o && (match P.underlying f.type with
    | some d' => descB d' d
    | none => false) && isBasicD d && fieldsB P fs l
  | _, _ => false
theorem fieldsB_ok {P : Program} : ∀ {fs : List Field} {l : List (Nat × TypeDesc)}, fieldsB P fs l = true → eqFieldsOk P fs l
  | [], [], _ => trivial
  | [], _ :: _, h => by simp [fieldsB] at h
  | _ :: _, [], h => by simp [fieldsB] at h
  | f :: fs, (o, d) :: l, h => by
    simp only [fieldsB, Bool.and_eq_true] at h
    obtain ⟨⟨⟨⟨h1, h2⟩, h3⟩, h4⟩, h5⟩ := h
    refine ⟨by simpa using h1, Nat.eq_of_beq_eq_true h2, ?_, h4, fieldsB_ok h5⟩
    split at h3
    · rename_i d' hd; rw [hd, descB_eq h3]
    · cases h3
def eqFieldsB (P : Program) (d : Option TypeDesc) (l : List (Nat × TypeDesc)) : Bool :=
  match d with
  | some (.struct fs) => fieldsB P fs.toList l
  | _ => false
theorem eqFieldsB_ok {P : Program} {d : Option TypeDesc} {l : List (Nat × TypeDesc)} (h : eqFieldsB P d l = true) : ∃ fs, d = some (.struct fs) ∧ eqFieldsOk P fs.toList l := by
  unfold eqFieldsB at h
  split at h
  · rename_i fs; exact ⟨fs, rfl, fieldsB_ok h⟩
  · cases h

end Go.WeftN
