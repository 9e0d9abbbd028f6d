/- Calls that are known: a call's answer, once found, is used in greater heaps; a closed call, from any world that has the tables. -/
import Derived.Test.YtnlacfnniflkdaaGreatDoorNZi
namespace Go.WeftN

noncomputable section

/-! ### Equality of objects, as far as it is asked -/
def entEq : List MapEntry → List MapEntry → Bool
  | [], [] => true
  | ⟨a, b, c⟩ :: x, ⟨d, e, f⟩ :: y => valEq 9 a d && valEq 9 b e && Nat.beq c f && entEq x y
  | _, _ => false

def objEq : AObj → AObj → Bool
  | .cells a x f t, .cells b y g u => listEq (valEq 9) a b && (x == y) && Nat.beq f g && Nat.beq t u
  | .map a c, .map b d => entEq a b && Nat.beq c d
  | _, _ => false

/-- All of a list lie in a table. -/
def hasL (t : Tr) : List (Nat × AObj) → Bool
  | [] => true
  | (i, o) :: l => (match t.get i with
    | some o' => objEq o' o
    | none => false) && hasL t l

def setL (t : Tr) : List (Nat × AObj) → Tr
  | [] => t
  | (i, o) :: l => (setL t l).set i (some o)
def delL (t : Tr) : List (Nat × AObj) → Tr
  | [] => t
  | (i, _) :: l => (delL t l).set i none

/-- A call whose answer is known: its arguments, the objects that it needs, the next name; its answer, the objects that are there then, the next name. -/
structure Cut where
  f : FuncId
  args : List Value
  K : List (Nat × AObj)
  next : Nat
  v : Value
  K' : List (Nat × AObj)
  next' : Nat

def cutChk (c : Cut) : Option (List Res) → Bool
  | some rs => rs.all fun
    | .call (.ret v) _ H => valEq 9 v c.v && Nat.ble H.next c.next' && hasL H.t c.K'
    | _ => false
  | none => false

def cutRun (c : Cut) (args : List Value) (H : AHeap) : Option (List Res) :=
  bif listEq (valEq 9) args c.args && Nat.beq H.next c.next && hasL H.t c.K then some [.call (.ret c.v) none ⟨setL (delL H.t c.K) c.K', c.next'⟩] else none

def cutsE : List Cut → EC → FuncId → List Value → AHeap → Option (List Res)
  | [], ec, f, args, H => ec (.call f args false none) H
  | c :: l, ec, f, args, H => bif Nat.beq c.f f then match cutRun c args H with
      | some r => some r
      | none => cutsE l ec f args H
    else cutsE l ec f args H

/-- The evaluator, with what is known. -/
def withCuts (l : List Cut) (ec : EC) : EC := fun r H => match r with
  | .code fi c a => ec (.code fi c a) H
  | .call f args dfr up => bif dfr then ec (.call f args dfr up) H else match up with
    | none => cutsE l ec f args H
    | some _ => ec (.call f args dfr up) H

def evC (T : Tab) (dr : Draw) (l : List Cut) : Nat → EC := Nat.rec (fun _ _ => none) (fun _ ih => withCuts l (stepR T dr ih))

end

theorem entEq_eq : ∀ {x y : List MapEntry}, entEq x y = true → x = y
  | [], [], _ => rfl
  | [], _ :: _, h => by simp [entEq] at h
  | _ :: _, [], h => by simp [entEq] at h
  | ⟨a, b, c⟩ :: x, ⟨d, e, f⟩ :: y, h => by
    simp only [entEq, Bool.and_eq_true] at h
    rw [valEq_eq 9 h.1.1.1, valEq_eq 9 h.1.1.2, Nat.eq_of_beq_eq_true h.1.2, entEq_eq h.2]

theorem vals_eq {x y : List Value} (h : listEq (valEq 9) x y = true) : x = y := listEq_eq (fun _ _ h => valEq_eq 9 h) h

theorem objEq_eq {a b : AObj} (h : objEq a b = true) : a = b ∧ a.writable = true := by
  unfold objEq at h
  split at h
  · simp only [Bool.and_eq_true, beq_iff_eq] at h
    rw [vals_eq h.1.1.1, h.1.1.2, Nat.eq_of_beq_eq_true h.1.2, Nat.eq_of_beq_eq_true h.2]
    exact ⟨rfl, rfl⟩
  · simp only [Bool.and_eq_true] at h
    rw [entEq_eq h.1, Nat.eq_of_beq_eq_true h.2]
    exact ⟨rfl, rfl⟩
  · cases h

theorem hasL_get {t : Tr} : ∀ {l : List (Nat × AObj)}, hasL t l = true → ∀ i o, (i, o) ∈ l → t.get i = some o ∧ o.writable = true
  | [], _, i, o, h => by simp at h
  | (j, u) :: l, h, i, o, hm => by
    simp only [hasL, Bool.and_eq_true] at h
    rcases List.mem_cons.1 hm with he | hm
    · cases he
      have h1 := h.1
      split at h1
      · rename_i o' ho'
        obtain ⟨e1, e2⟩ := objEq_eq h1
        subst e1
        exact ⟨ho', e2⟩
      · cases h1
    · exact hasL_get h.2 i o hm

theorem setL_cases {t : Tr} : ∀ {l : List (Nat × AObj)} {i : Nat} {o : AObj}, (setL t l).get i = some o → (i, o) ∈ l ∨ t.get i = some o
  | [], i, o, h => .inr h
  | (j, u) :: l, i, o, h => by
    simp only [setL, Tr.get_set] at h
    split at h
    · rename_i hij; subst hij; cases h; exact .inl List.mem_cons_self
    · rcases setL_cases h with h | h
      · exact .inl (List.mem_cons_of_mem _ h)
      · exact .inr h
theorem setL_some {t : Tr} : ∀ {l : List (Nat × AObj)} {i : Nat}, (t.get i ≠ none ∨ ∃ o, (i, o) ∈ l) → (setL t l).get i ≠ none
  | [], i, h => by
    rcases h with h | ⟨o, h⟩
    · exact h
    · simp at h
  | (j, u) :: l, i, h => by
    simp only [setL, Tr.get_set]
    split
    · simp
    · rename_i hij
      refine setL_some ?_
      rcases h with h | ⟨o, h⟩
      · exact .inl h
      · rcases List.mem_cons.1 h with he | h
        · cases he; exact absurd rfl hij
        · exact .inr ⟨o, h⟩
theorem setL_in {t t' : Tr} : ∀ {l : List (Nat × AObj)} {i : Nat}, (∃ o, (i, o) ∈ l) → (setL t l).get i = (setL t' l).get i
  | [], i, ⟨o, h⟩ => by simp at h
  | (j, u) :: l, i, ⟨o, h⟩ => by
    simp only [setL, Tr.get_set]
    split
    · rfl
    · rename_i hij
      rcases List.mem_cons.1 h with he | h
      · cases he; exact absurd rfl hij
      · exact setL_in ⟨o, h⟩
theorem setL_out {t : Tr} : ∀ {l : List (Nat × AObj)} {i : Nat}, (¬ ∃ o, (i, o) ∈ l) → (setL t l).get i = t.get i
  | [], i, _ => rfl
  | (j, u) :: l, i, h => by
    simp only [setL, Tr.get_set]
    rw [if_neg, setL_out]
    · rintro ⟨o, ho⟩; exact h ⟨o, List.mem_cons_of_mem _ ho⟩
    · intro hij; subst hij; exact h ⟨u, List.mem_cons_self⟩
theorem delL_in {t : Tr} : ∀ {l : List (Nat × AObj)} {i : Nat}, (∃ o, (i, o) ∈ l) → (delL t l).get i = none
  | [], i, ⟨o, h⟩ => by simp at h
  | (j, u) :: l, i, ⟨o, h⟩ => by
    simp only [delL, Tr.get_set]
    split
    · rfl
    · rename_i hij
      rcases List.mem_cons.1 h with he | h
      · cases he; exact absurd rfl hij
      · exact delL_in ⟨o, h⟩
theorem delL_out {t : Tr} : ∀ {l : List (Nat × AObj)} {i : Nat}, (¬ ∃ o, (i, o) ∈ l) → (delL t l).get i = t.get i
  | [], i, _ => rfl
  | (j, u) :: l, i, h => by
    simp only [delL, Tr.get_set]
    rw [if_neg, delL_out]
    · rintro ⟨o, ho⟩; exact h ⟨o, List.mem_cons_of_mem _ ho⟩
    · intro hij; subst hij; exact h ⟨u, List.mem_cons_self⟩

/-- Less is told of what there is. -/
theorem Out.less {e : Emb} {H : AHeap} {w : World} {e' : Emb} {H1 : AHeap} {w' : World} (o : Out e H w e' H1 w') {K : AHeap} (hs : ∀ i ob, K.t.get i = some ob → H1.t.get i = some ob) (hn : H1.next ≤ K.next)
    (hr : ∀ i cs, H.t.get i = some (.rom cs) → K.t.get i = some (.rom cs)) : Out e H w e' K w' where
  le := o.le
  rep := ⟨fun i ob h => o.rep.obj i ob (hs i ob h), fun i j oi oj li lj hi hj => o.rep.inj i j oi oj li lj (hs i oi hi) (hs j oj hj), fun i ob h => Nat.lt_of_lt_of_le (o.rep.lt i ob (hs i ob h)) hn, fun i h => o.rep.fresh i (Nat.le_trans hn h)⟩
  next := Nat.le_trans o.next hn
  ids := fun i ob h => o.ids i ob (hs i ob h)
  rom := hr
  size := o.size
  keep := o.keep
  new := o.new
  still := o.still
  os := o.os
  output := o.output
  tape := o.tape

/-- What is only read, as a function of names. -/
def romR (rt : Tr) : Nat → Option (List Value) := fun i => match rt.get i with
  | some (.rom cs) => some cs
  | _ => none
theorem romR_get {rt : Tr} {i : Nat} {cs : List Value} : romR rt i = some cs ↔ rt.get i = some (.rom cs) := by
  unfold romR
  split
  · rename_i cs' h
    rw [h]
    exact ⟨fun h => (by cases h; rfl), fun h => (by cases h; rfl)⟩
  · rename_i h
    exact ⟨fun h2 => (by cases h2), fun h2 => absurd h2 (h cs)⟩

/-- It has only what is only read. -/
def OnlyRom (rt : Tr) : Prop := ∀ i o, rt.get i = some o → ∃ cs, o = .rom cs

def Cut.H (c : Cut) (rt : Tr) : AHeap := ⟨setL rt c.K, c.next⟩
def Cut.H' (c : Cut) (rt : Tr) : AHeap := ⟨setL rt c.K', c.next'⟩
def CutOk (P : Program) (T : Tab) (rt : Tr) (c : Cut) : Prop :=
  (∀ i o, (i, o) ∈ c.K → o.writable = true) ∧ (∀ i o, (i, o) ∈ c.K' → o.writable = true) ∧ Met P T (romR rt) (.call c.f c.args false none) (c.H rt) [.call (.ret c.v) none (c.H' rt)]

def allW : List (Nat × AObj) → Bool
  | [] => true
  | (_, o) :: l => o.writable && allW l
theorem allW_mem : ∀ {l : List (Nat × AObj)}, allW l = true → ∀ i o, (i, o) ∈ l → o.writable = true
  | [], _, i, o, h => by simp at h
  | (j, u) :: l, h, i, o, hm => by
    simp only [allW, Bool.and_eq_true] at h
    rcases List.mem_cons.1 hm with he | hm
    · cases he; exact h.1
    · exact allW_mem h.2 i o hm

theorem cut_ok {P : Program} {T : Tab} {rt : Tr} (hrt : OnlyRom rt) {ec : EC} (hec : Meets P T (romR rt) ec) {c : Cut} (hw : allW c.K = true) (hw' : allW c.K' = true) (h : cutChk c (ec (.call c.f c.args false none) (c.H rt)) = true) : CutOk P T rt c := by
  refine ⟨allW_mem hw, allW_mem hw', ?_⟩
  intro e w cs m args' r hb hargs hu hcs
  unfold cutChk at h
  split at h
  · rename_i rs hrs
    obtain ⟨o, up', H1, hin, e', w', m', fr, en, ho, hu', hst, hfn, hkind, hgo, hres⟩ := hec _ _ _ hrs e w cs m args' r hb hargs hu hcs
    rw [List.all_eq_true] at h
    have h1 := h _ hin
    cases o with
    | pan ch => simp at h1
    | ret v =>
      simp only [Bool.and_eq_true] at h1
      obtain ⟨⟨hv, hn⟩, hK⟩ := h1
      have hv := valEq_eq 9 hv
      subst hv
      have hromH1 : ∀ i o, rt.get i = some o → H1.t.get i = some o := by
        intro i o hi
        obtain ⟨cs, rfl⟩ := hrt i o hi
        exact ho.rom i cs (hb.rom i cs (romR_get.2 hi))
      have hsub : ∀ i ob, (setL rt c.K').get i = some ob → H1.t.get i = some ob := by
        intro i ob hi
        rcases setL_cases hi with hi | hi
        · exact (hasL_get hK i ob hi).1
        · exact hromH1 i ob hi
      have hless : Out e (c.H rt) w e' (c.H' rt) w' := ho.less hsub (Nat.le_of_ble_eq_true hn) (by
        intro i cs hi
        have hi2 : (setL rt c.K).get i = some (.rom cs) := hi
        have hi1 := ho.rom i cs hi
        have hrt1 : rt.get i = some (.rom cs) := by
          rcases setL_cases hi2 with h | h
          · have := allW_mem hw i _ h
            simp [AObj.writable] at this
          · exact h
        show (setL rt c.K').get i = some (.rom cs)
        cases hg : (setL rt c.K').get i with
        | none => exact absurd hg (setL_some (.inl (by rw [hrt1]; simp)))
        | some ob =>
          have := hsub i ob hg
          rw [hi1] at this; exact this.symm)
      exact ⟨.ret c.v, none, c.H' rt, List.mem_singleton.2 rfl, e', w', m', fr, en, hless, (fun h => by cases h), hst, hfn, hkind, hgo, hres⟩
  · cases h

theorem cutRun_met {P : Program} {T : Tab} {rt : Tr} (hrt : OnlyRom rt) {c : Cut} (hc : CutOk P T rt c) {args : List Value} {H : AHeap} {rs : List Res} (h : cutRun c args H = some rs) : Met P T (romR rt) (.call c.f args false none) H rs := by
  unfold cutRun at h
  cases hb : (listEq (valEq 9) args c.args && Nat.beq H.next c.next && hasL H.t c.K) with
  | false => rw [hb] at h; cases h
  | true =>
    rw [hb, cond_true] at h; cases h
    simp only [Bool.and_eq_true] at hb
    obtain ⟨⟨ha, hn⟩, hK⟩ := hb
    have ha := vals_eq ha
    subst ha
    have hn := Nat.eq_of_beq_eq_true hn
    obtain ⟨hw, hw', hmet⟩ := hc
    intro e w cs m args' r hb hargs hu hcs
    have hromH : ∀ i o, rt.get i = some o → H.t.get i = some o := by
      intro i o hi
      obtain ⟨cs, rfl⟩ := hrt i o hi
      exact hb.rom i cs (romR_get.2 hi)
    have hKH : ∀ i o, (i, o) ∈ c.K → H.t.get i = some o := fun i o hi => (hasL_get hK i o hi).1
    have hsub : Sub (c.H rt) H := by
      refine ⟨hn.symm, fun i o hi => ?_⟩
      rcases setL_cases (show (setL rt c.K).get i = some o from hi) with hi | hi
      · exact hKH i o hi
      · exact hromH i o hi
    have hbK : Base T (romR rt) e (c.H rt) := by
      refine ⟨hb.glob, fun i cs hi => ?_⟩
      have h1 := romR_get.1 hi
      show (setL rt c.K).get i = some (.rom cs)
      cases hg : (setL rt c.K).get i with
      | none => exact absurd hg (setL_some (.inl (by rw [h1]; simp)))
      | some ob =>
        have h2 := hsub.2 i ob hg
        rw [hromH i _ h1] at h2; exact h2.symm
    obtain ⟨o, up', H1, hin, e', w', m', fr, en, ho, hu', hst, hfn, hkind, hgo, hres⟩ := hmet e w cs m args' (r.sub hsub) hbK hargs hu hcs
    rw [List.mem_singleton] at hin
    cases hin
    have hkk : ∀ i, (∃ o, (i, o) ∈ c.K) → rt.get i = none := by
      rintro i ⟨o, hi⟩
      cases hg : rt.get i with
      | none => rfl
      | some ob =>
        obtain ⟨cs, rfl⟩ := hrt i ob hg
        have h1 := hromH i _ hg
        rw [hKH i o hi] at h1
        have := hw i o hi
        cases h1; simp [AObj.writable] at this
    have hbes : Beside (c.H rt) H (c.H' rt) ⟨setL (delL H.t c.K) c.K', c.next'⟩ := by
      refine ⟨rfl, ?_, ?_, ?_⟩
      · intro i ob hi
        have hi2 : (setL rt c.K').get i = some ob := hi
        show (setL (delL H.t c.K) c.K').get i = some ob
        by_cases hk : ∃ o, (i, o) ∈ c.K'
        · rw [setL_in hk (t' := rt)]; exact hi2
        · rw [setL_out hk] at hi2 ⊢
          rw [delL_out]
          · exact hromH i ob hi2
          · intro hk2; rw [hkk i hk2] at hi2; cases hi2
      · intro i ob hi hh
        show (setL (delL H.t c.K) c.K').get i = some ob
        have hi2 : (setL rt c.K).get i = none := hi
        have hk2 : ¬ ∃ o, (i, o) ∈ c.K := fun hk => setL_some (.inr hk) hi2
        by_cases hk : ∃ o, (i, o) ∈ c.K'
        · exfalso
          cases hg : (setL rt c.K').get i with
          | none => exact setL_some (.inr hk) hg
          | some u =>
            rcases ho.ids i u hg with ⟨o0, h0, _⟩ | h0
            · rw [hi] at h0; cases h0
            · have h1 := r.lt i ob hh
              have : (c.H rt).next = c.next := rfl
              omega
        · rw [setL_out hk, delL_out hk2]; exact hh
      · intro i ob hi
        have hi2 : (setL (delL H.t c.K) c.K').get i = some ob := hi
        by_cases hk : ∃ o, (i, o) ∈ c.K'
        · left
          show (setL rt c.K').get i = some ob
          rw [setL_in hk (t' := delL H.t c.K)]; exact hi2
        · rw [setL_out hk] at hi2
          have hk2 : ¬ ∃ o, (i, o) ∈ c.K := fun h => by rw [delL_in h] at hi2; cases hi2
          rw [delL_out hk2] at hi2
          cases hg : rt.get i with
          | some u =>
            left
            show (setL rt c.K').get i = some ob
            rw [setL_out hk, hg, ← hromH i u hg, hi2]
          | none =>
            right
            refine ⟨?_, hi2⟩
            show (setL rt c.K).get i = none
            rw [setL_out hk2, hg]
    have hO := ho.beside r hsub hbes (fun i cs hi => by
      cases hg : (c.H rt).t.get i with
      | none => exact .inl rfl
      | some ob =>
        have := hsub.2 i ob hg
        rw [hi] at this; cases this
        exact .inr rfl)
    exact ⟨_, _, _, List.mem_singleton.2 rfl, e', w', m', fr, en, hO, hu', hst, hfn, hkind, hgo, hres⟩

theorem cutsE_met {P : Program} {T : Tab} {rt : Tr} (hrt : OnlyRom rt) {ec : EC} (hec : Meets P T (romR rt) ec) : ∀ {l : List Cut}, (∀ c ∈ l, CutOk P T rt c) → ∀ {f : FuncId} {args : List Value} {H : AHeap} {rs : List Res}, cutsE l ec f args H = some rs → Met P T (romR rt) (.call f args false none) H rs
  | [], _, f, args, H, rs, h => hec _ _ _ h
  | c :: l, hl, f, args, H, rs, h => by
    have hl2 : ∀ c ∈ l, CutOk P T rt c := fun c hc => hl c (List.mem_cons_of_mem _ hc)
    simp only [cutsE] at h
    cases hf : Nat.beq c.f f with
    | false => rw [hf, cond_false] at h; exact cutsE_met hrt hec hl2 h
    | true =>
      rw [hf, cond_true] at h
      have hf := Nat.eq_of_beq_eq_true hf
      subst hf
      split at h
      · rename_i r hr
        cases h
        exact cutRun_met hrt (hl c List.mem_cons_self) hr
      · exact cutsE_met hrt hec hl2 h

theorem withCuts_met {P : Program} {T : Tab} {rt : Tr} (hrt : OnlyRom rt) {ec : EC} (hec : Meets P T (romR rt) ec) {l : List Cut} (hl : ∀ c ∈ l, CutOk P T rt c) : Meets P T (romR rt) (withCuts l ec) := by
  intro r H rs h
  cases r with
  | code fi c a => exact hec _ _ _ h
  | call f args dfr up =>
    simp only [withCuts] at h
    cases dfr with
    | true => exact hec _ _ _ h
    | false =>
      rw [cond_false] at h
      cases up with
      | none => exact cutsE_met hrt hec hl h
      | some c => exact hec _ _ _ h

theorem evC_met {P : Program} {T : Tab} {rt : Tr} (hrt : OnlyRom rt) (hT : TabOk P T (romR rt)) {dr : Draw} (hdr : DrawOk P T (romR rt) dr) {l : List Cut} (hl : ∀ c ∈ l, CutOk P T rt c) : ∀ n, Meets P T (romR rt) (evC T dr l n)
  | 0 => fun r H rs h => by simp [evC] at h
  | n + 1 => withCuts_met hrt (stepR_met hT (evC_met hrt hT hdr hl n) hdr) hl

/-! ### From a world -/
/-- A world that has what is only read. -/
structure Has (T : Tab) (rt : Tr) (nx : Nat) (W : World) : Prop where
  rom : ∀ i cs, rt.get i = some (.rom cs) → ∃ c elem fr, W.heap[i]? = some (.cells c elem fr) ∧ cs.length = c.size ∧ (∀ (j : Nat) (v : Value), cs[j]? = some v → ∃ v', c[j]? = some v' ∧ v = v' ∧ plainB 0 v = true)
  glob : ∀ g, T.E.glob g = true → ∃ cs, rt.get g = some (.rom cs)
  lt : ∀ i o, rt.get i = some o → i < nx

/-- The names of what is only read: their own places. -/
def romE (rt : Tr) : Emb := fun i => match rt.get i with
  | some (.rom cs) => some ⟨i, 0, cs.length⟩
  | _ => none

theorem romE_rep {T : Tab} {rt : Tr} (hrt : OnlyRom rt) {nx : Nat} {W : World} (h : Has T rt nx W) : Rep (romE rt) ⟨rt, nx⟩ W ∧ Base T (romR rt) (romE rt) ⟨rt, nx⟩ := by
  refine ⟨⟨?_, ?_, h.lt, ?_⟩, ⟨?_, fun i cs hi => romR_get.1 hi⟩⟩
  · intro i o hi
    obtain ⟨cs, rfl⟩ := hrt i o hi
    refine ⟨⟨i, 0, cs.length⟩, by simp only [romE]; rw [show rt.get i = some (.rom cs) from hi], ?_⟩
    obtain ⟨c, elem, fr, h1, h2, h3⟩ := h.rom i cs hi
    refine ⟨c, elem, fr, h1, by simpa using h2, rfl, fun j v hj => ?_⟩
    obtain ⟨v', h4, h5, h6⟩ := h3 j v hj
    subst h5
    exact ⟨v, by simpa using h4, plainB_rel 0 v _ h6⟩
  · intro i j oi oj li lj hi hj hei hej hb
    obtain ⟨cs, rfl⟩ := hrt i oi hi
    obtain ⟨ds, rfl⟩ := hrt j oj hj
    simp only [romE] at hei hej
    rw [show rt.get i = some (.rom cs) from hi] at hei
    rw [show rt.get j = some (.rom ds) from hj] at hej
    cases hei; cases hej
    exact hb
  · intro i hi
    simp only [romE]
    cases hg : rt.get i with
    | none => rfl
    | some o =>
      have := h.lt i o hg
      simp only at hi
      omega
  · intro g hg
    obtain ⟨cs, hcs⟩ := h.glob g hg
    exact ⟨cs.length, by simp only [romE]; rw [hcs]⟩

/-- A closed call: of plain arguments, from any world that has what is only read. -/
theorem calls_of {P : Program} {T : Tab} {rt : Tr} (hrt : OnlyRom rt) {ec : EC} (hec : Meets P T (romR rt) ec) {nx : Nat} {W : World} (hW : Has T rt nx W) {f : FuncId} {args : List Value} (hargs : LRel (romE rt) args args) {rs : List Res}
    (h : ec (.call f args false none) ⟨rt, nx⟩ = some rs) {v : Value} (hv : ∀ r ∈ rs, ∃ up H, r = .call (.ret v) up H) (hpl : plainB 2 v = true) (hnp : ∀ e v', VRel e v v' → v' = v) :
    Calls P f args.toArray W fun en w' => en = .returned v ∧ w'.os = W.os ∧ w'.output = W.output ∧ W.heap.size ≤ w'.heap.size ∧ (∀ b, b < W.heap.size → w'.heap[b]? = W.heap[b]?) := by
  obtain ⟨r, hb⟩ := romE_rep hrt hW
  intro cs
  obtain ⟨o, up', H1, hin, e', w', m', fr, en, ho, hu', hst, hfn, hkind, hgo, hres⟩ := hec _ _ _ h (romE rt) W cs .run args r hb hargs (fun h => by cases h) (fun h => by cases h)
  obtain ⟨up, H, he⟩ := hv _ hin
  cases he
  obtain ⟨v', rfl, hv'⟩ := hres
  have hvv := hnp _ _ hv'
  subst hvv
  obtain ⟨g1, g2, g3⟩ := hgo
  refine ⟨.returned v', w', fr, ⟨rfl, ho.os, ho.output, ho.size, fun b hb => ?_⟩, ?_, hfn, ⟨g1, g2, hkind, g3⟩⟩
  · refine ho.keep b hb fun i o l hi hw hl => ?_
    obtain ⟨cs, rfl⟩ := hrt i o hi
    simp [AObj.writable] at hw
  · exact hst

end Go.WeftN
