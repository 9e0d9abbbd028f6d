/- What one run over a drawn region has said of each operation. -/
import Derived.Test.YtnlacfnniflkdaaGreatDoorNZa
namespace Go.WeftN

def revl {α : Type} (X : Nat → α) : Nat → List α
  | 0 => []
  | k + 1 => X k :: revl X k

theorem revl_length {α : Type} (X : Nat → α) : ∀ k, (revl X k).length = k
  | 0 => rfl
  | k + 1 => by simp [revl, revl_length X k]
theorem revl_congr {α : Type} {X Y : Nat → α} : ∀ {k}, (∀ i, i < k → X i = Y i) → revl X k = revl Y k
  | 0, _ => rfl
  | k + 1, h => by rw [revl, revl, h k (by omega), revl_congr fun i hi => h i (by omega)]

def upd {α : Type} (X : Nat → α) (k : Nat) (x : α) : Nat → α := fun i => if i = k then x else X i
theorem upd_self {α : Type} (X : Nat → α) (k : Nat) (x : α) : upd X k x k = x := by simp [upd]
theorem upd_lt {α : Type} (X : Nat → α) (k : Nat) (x : α) {i : Nat} (h : i < k) : upd X k x i = X i := by simp [upd, Nat.ne_of_lt h]

section
variable (T : Tab) (ec : EC) (fi : FI) (ops : Array Oper) (a0 : AAct) (base : Nat)

theorem opD_shape {o : Oper} {s s1 : DP} (h : opD T ec fi ops a0 base o s = some s1) : ∃ x, s1.res = x :: s.res ∧ (s1.sts = s.sts ∨ ∃ st, s1.sts = st :: s.sts) := by
  unfold opD at h
  simp only at h
  split at h
  · rename_i pre st older hpre hsts
    cases hd : dstOk a0.tm o.dst with
    | false => rw [hd] at h; cases h
    | true =>
      rw [hd] at h
      simp only [Bool.not_true, cond_false] at h
      split at h
      · cases h
      · cases hp : inPlace pre o.dst (o.looksAt ops) false s.res with
        | false => rw [hp] at h; cases h
        | true => rw [hp, cond_true] at h; cases h; exact ⟨_, rfl, .inl rfl⟩
      · split at h
        · cases h
        · cases hp : inPlace pre o.dst (o.looksAt ops) false s.res with
          | false => rw [hp] at h; cases h
          | true => rw [hp, cond_true] at h; cases h; exact ⟨_, rfl, .inl rfl⟩
        · cases hp : inPlace pre o.dst (o.looksAt ops) false s.res with
          | false => rw [hp] at h; cases h
          | true =>
            rw [hp, cond_true] at h
            split at h
            · cases h; exact ⟨_, rfl, .inl rfl⟩
            · cases h
        · cases hp : inPlace pre o.dst (o.looksAt ops) false s.res with
          | false => rw [hp] at h; cases h
          | true => rw [hp, cond_true] at h; cases h; exact ⟨_, rfl, .inl rfl⟩
        · cases hp : inPlace pre o.dst (o.looksAt ops) true s.res with
          | false => rw [hp] at h; cases h
          | true =>
            rw [hp, cond_true] at h
            split at h
            · cases h; exact ⟨_, rfl, .inr ⟨_, rfl⟩⟩
            · cases h
  · cases h

theorem passD_trace : ∀ (l : List Oper) (k c : Nat) (X : Nat → PE) (ST : Nat → St) {s' : DP}, passD T ec fi ops a0 base l ⟨revl X k, revl ST (c + 1)⟩ = some s' →
    ∃ (X' : Nat → PE) (ST' : Nat → St) (c' : Nat → Nat), (∀ i, i < k → X' i = X i) ∧ (∀ i, i ≤ c → ST' i = ST i) ∧ c' k = c ∧
      (∀ j o, l[j]? = some o → opD T ec fi ops a0 base o ⟨revl X' (k + j), revl ST' (c' (k + j) + 1)⟩ = some ⟨revl X' (k + j + 1), revl ST' (c' (k + j + 1) + 1)⟩) ∧
      s' = ⟨revl X' (k + l.length), revl ST' (c' (k + l.length) + 1)⟩
  | [], k, c, X, ST, s', h => by
    simp only [passD] at h; cases h
    exact ⟨X, ST, fun _ => c, fun _ _ => rfl, fun _ _ => rfl, rfl, fun j o hj => by simp at hj, rfl⟩
  | o :: l, k, c, X, ST, s', h => by
    simp only [passD] at h
    split at h
    · cases h
    · rename_i s1 hs1
      obtain ⟨x, hr, hst⟩ := opD_shape T ec fi ops a0 base hs1
      obtain ⟨c1, ST1, hST1, hc1⟩ : ∃ c1 ST1, s1.sts = revl ST1 (c1 + 1) ∧ (∀ i, i ≤ c → ST1 i = ST i) ∧ c ≤ c1 := by
        rcases hst with hst | ⟨st, hst⟩
        · exact ⟨c, ST, hst, fun _ _ => rfl, Nat.le_refl _⟩
        · refine ⟨c + 1, upd ST (c + 1) st, ?_, fun i hi => upd_lt _ _ _ (by omega), by omega⟩
          rw [hst]
          show st :: revl ST (c + 1) = upd ST (c + 1) st (c + 1) :: revl (upd ST (c + 1) st) (c + 1)
          rw [upd_self, revl_congr (X := upd ST (c + 1) st) (Y := ST) fun i hi => upd_lt _ _ _ hi]
      have hX1 : s1.res = revl (upd X k x) (k + 1) := by
        rw [hr]
        show x :: revl X k = upd X k x k :: revl (upd X k x) k
        rw [upd_self, revl_congr (X := upd X k x) (Y := X) fun i hi => upd_lt _ _ _ hi]
      have hs1e : s1 = ⟨revl (upd X k x) (k + 1), revl ST1 (c1 + 1)⟩ := by cases s1; simp only at hX1 hST1; rw [hX1, hST1]
      rw [hs1e] at h
      obtain ⟨X', ST', c', h1, h2, h3, h4, h5⟩ := passD_trace l (k + 1) c1 (upd X k x) ST1 h
      have hXk : ∀ i, i < k → X' i = X i := fun i hi => (h1 i (by omega)).trans (upd_lt _ _ _ hi)
      have hSk : ∀ i, i ≤ c → ST' i = ST i := fun i hi => (h2 i (by omega)).trans (hc1.1 i hi)
      refine ⟨X', ST', upd c' k c, hXk, hSk, upd_self _ _ _, ?_, ?_⟩
      · intro j o' hj
        have hne : ∀ m, upd c' k c (k + m + 1) = c' (k + m + 1) := fun m => by simp [upd]; omega
        cases j with
        | zero =>
          simp at hj; subst hj
          rw [Nat.add_zero, upd_self, hne 0, Nat.add_zero, h3]
          rw [revl_congr (X := X') (Y := X) (k := k) hXk, revl_congr (X := ST') (Y := ST) (k := c + 1) fun i hi => hSk i (by omega), hs1, hs1e]
          congr 2
          · exact revl_congr fun i hi => (h1 i hi).symm
          · exact revl_congr fun i hi => (h2 i (by omega)).symm
        | succ j =>
          have := h4 j o' (by simpa using hj)
          rw [show k + (j + 1) = k + j + 1 by omega, hne j, show k + j + 1 + 1 = k + (j + 1) + 1 by omega, hne (j + 1)]
          rw [show k + 1 + j = k + j + 1 by omega] at this
          exact this
      · rw [h5]
        have : upd c' k c (k + (o :: l).length) = c' (k + 1 + l.length) := by
          simp [upd]
          rw [show k + (l.length + 1) = k + 1 + l.length by omega]
        rw [this, show k + (o :: l).length = k + 1 + l.length by simp; omega]
end

/-- What an operation is, in its kind. -/
inductive Kind (T : Tab) (ec : EC) (fi : FI) (ops : Array Oper) (a0 : AAct) (base : Nat) (o : Oper) (k : Nat) (res : List PE) (st : St) (pre : Nat) : PE → Option St → Prop
  | skip (hw : wantedD ops a0 res (o.looksAt ops) o = some false) : Kind T ec fi ops a0 base o k res st pre ⟨undef, pre, o.dst, o.looksAt ops, none, none, false⟩ none
  | pure (v : Value) (hw : wantedD ops a0 res (o.looksAt ops) o = some true) (he : effOf T.E (rhoD T.E a0 res (o.looksAt ops)) o = some (.pure v)) :
      Kind T ec fi ops a0 base o k res st pre ⟨v, pre, o.dst, o.looksAt ops, none, none, false⟩ none
  | read (f : Tr → Option Value) (v : Value) (hw : wantedD ops a0 res (o.looksAt ops) o = some true) (he : effOf T.E (rhoD T.E a0 res (o.looksAt ops)) o = some (.read f)) (hf : f (addP base pre st.mg res st.H.t) = some v) :
      Kind T ec fi ops a0 base o k res st pre ⟨v, pre, o.dst, o.looksAt ops, none, some f, false⟩ none
  | alloc (m : Mk) (hw : wantedD ops a0 res (o.looksAt ops) o = some true) (he : effOf T.E (rhoD T.E a0 res (o.looksAt ops)) o = some (.alloc m)) :
      Kind T ec fi ops a0 base o k res st pre ⟨m.val (base + k), pre, o.dst, o.looksAt ops, some m.obj, none, false⟩ none
  | chain (a1 : AAct) (H1 : AHeap) (hw : wantedD ops a0 res (o.looksAt ops) o = some true)
      (hr : opRunG T ec fi (rhoD T.E a0 res (o.looksAt ops)) o st.up ⟨addP base pre st.mg res st.H.t, st.H.next⟩ k0 kp0 = some [.next a1 H1]) :
      Kind T ec fi ops a0 base o k res st pre ⟨(a1.tm.get 0).getD undef, pre, o.dst, o.looksAt ops, none, none, true⟩ (some ⟨addDefs a1.defers st.ds, a1.up, H1, Nat.lor st.mg pre⟩)

theorem opD_kind {T : Tab} {ec : EC} {fi : FI} {ops : Array Oper} {a0 : AAct} {base : Nat} {o : Oper} {res : List PE} {st : St} {sts : List St} {s1 : DP} (h : opD T ec fi ops a0 base o ⟨res, st :: sts⟩ = some s1) :
    ∃ pre x n, preM res res.length o.after.toList = some pre ∧ dstOk a0.tm o.dst = true ∧ inPlace pre o.dst (o.looksAt ops) x.ch res = true ∧ Kind T ec fi ops a0 base o res.length res st pre x n ∧
      s1 = ⟨x :: res, (match n with | none => st :: sts | some st' => st' :: st :: sts)⟩ := by
  unfold opD at h
  simp only at h
  split at h
  · rename_i pre st2 older hpre hsts
    simp only [List.cons.injEq] at hsts
    obtain ⟨rfl, rfl⟩ := hsts
    cases hd : dstOk a0.tm o.dst with
    | false => rw [hd] at h; cases h
    | true =>
      rw [hd] at h
      simp only [Bool.not_true, cond_false] at h
      split at h
      · cases h
      · rename_i hw
        cases hp : inPlace pre o.dst (o.looksAt ops) false res with
        | false => rw [hp] at h; cases h
        | true => rw [hp, cond_true] at h; cases h; exact ⟨pre, _, none, hpre, rfl, hp, .skip hw, rfl⟩
      · rename_i hw
        split at h
        · cases h
        · rename_i v he
          cases hp : inPlace pre o.dst (o.looksAt ops) false res with
          | false => rw [hp] at h; cases h
          | true => rw [hp, cond_true] at h; cases h; exact ⟨pre, _, none, hpre, rfl, hp, .pure v hw he, rfl⟩
        · rename_i f he
          cases hp : inPlace pre o.dst (o.looksAt ops) false res with
          | false => rw [hp] at h; cases h
          | true =>
            rw [hp, cond_true] at h
            split at h
            · rename_i v hv; cases h; exact ⟨pre, _, none, hpre, rfl, hp, .read f v hw he hv, rfl⟩
            · cases h
        · rename_i m he
          cases hp : inPlace pre o.dst (o.looksAt ops) false res with
          | false => rw [hp] at h; cases h
          | true => rw [hp, cond_true] at h; cases h; exact ⟨pre, _, none, hpre, rfl, hp, .alloc m hw he, rfl⟩
        · cases hp : inPlace pre o.dst (o.looksAt ops) true res with
          | false => rw [hp] at h; cases h
          | true =>
            rw [hp, cond_true] at h
            split at h
            · rename_i a1 H1 hr
              cases h; exact ⟨pre, _, some _, hpre, rfl, hp, .chain a1 H1 hw hr, rfl⟩
            · cases h
  · cases h

theorem inPlace_spec {pre : Nat} {dst : Option Tmp} {rd : List Tmp} {ch : Bool} {X : Nat → PE} : ∀ {k : Nat}, inPlace pre dst rd ch (revl X k) = true → ∀ j, j < k →
    bit pre j = true ∨ (hasO rd (X j).dst = false ∧ sameO dst (X j).dst = false ∧ hasO (X j).rd dst = false ∧ (ch && (X j).ch) = false)
  | 0, _, j, hj => by omega
  | k + 1, h, j, hj => by
    simp only [revl, inPlace, revl_length] at h
    cases hc : (bit pre k || !(hasO rd (X k).dst || sameO dst (X k).dst || hasO (X k).rd dst || (ch && (X k).ch))) with
    | false => rw [hc] at h; cases h
    | true =>
      rw [hc, cond_true] at h
      by_cases hjk : j = k
      · subst hjk
        rw [Bool.or_eq_true] at hc
        rcases hc with hc | hc
        · exact .inl hc
        · right
          simp only [Bool.not_eq_true', Bool.or_eq_false_iff] at hc
          exact ⟨hc.1.1.1, hc.1.1.2, hc.1.2, hc.2⟩
      · exact inPlace_spec h j (by omega)

theorem revl_get {α : Type} (X : Nat → α) : ∀ (k j : Nat), j < k → (revl X k)[k - 1 - j]? = some (X j)
  | 0, j, h => by omega
  | k + 1, j, h => by
    by_cases hj : j = k
    · subst hj; simp [revl]
    · have : k + 1 - 1 - j = (k - 1 - j) + 1 := by omega
      rw [this]
      simp only [revl, List.getElem?_cons_succ]
      exact revl_get X k j (by omega)

theorem preM_spec {X : Nat → PE} {k : Nat} : ∀ {es : List Edge} {m : Nat}, preM (revl X k) k es = some m →
    (∀ e ∈ es, Region.binds .any e = true → e.on < k ∧ bit m e.on = true) ∧ (∀ j, bit m j = true → ∃ e ∈ es, Region.binds .any e = true ∧ e.on < k ∧ (j = e.on ∨ bit (X e.on).pre j = true))
  | [], m, h => by simp only [preM] at h; cases h; exact ⟨fun e he => by simp at he, fun j hj => by rw [bit_zero] at hj; cases hj⟩
  | e :: es, m, h => by
    simp only [preM] at h
    split at h
    · cases h
    · rename_i m1 hm1
      obtain ⟨h1, h2⟩ := preM_spec hm1
      cases hb : Region.binds .any e with
      | false =>
        rw [hb, cond_false] at h; cases h
        refine ⟨fun e' he' hb' => ?_, fun j hj => ?_⟩
        · rcases List.mem_cons.1 he' with rfl | he'
          · rw [hb] at hb'; cases hb'
          · exact h1 e' he' hb'
        · obtain ⟨e', he', hr⟩ := h2 j hj
          exact ⟨e', List.mem_cons_of_mem _ he', hr⟩
      | true =>
        rw [hb, cond_true] at h
        cases hlt : Nat.blt e.on k with
        | false => rw [hlt] at h; cases h
        | true =>
          rw [hlt, cond_true] at h
          have hlt' : e.on < k := Nat.le_of_ble_eq_true hlt
          rw [revl_get X k e.on hlt'] at h
          simp only at h; cases h
          refine ⟨fun e' he' hb' => ?_, fun j hj => ?_⟩
          · rcases List.mem_cons.1 he' with rfl | he'
            · exact ⟨hlt', by rw [bit_lor, bit_lor, bit_bitOf]; simp⟩
            · obtain ⟨a, b⟩ := h1 e' he' hb'
              exact ⟨a, by rw [bit_lor, b]; simp⟩
          · rw [bit_lor, bit_lor, bit_bitOf] at hj
            simp only [Bool.or_eq_true, decide_eq_true_iff] at hj
            rcases hj with hj | hj | hj
            · obtain ⟨e', he', hr⟩ := h2 j hj
              exact ⟨e', List.mem_cons_of_mem _ he', hr⟩
            · exact ⟨e, List.mem_cons_self, hb, hlt', .inr hj⟩
            · exact ⟨e, List.mem_cons_self, hb, hlt', .inl hj.symm⟩

theorem addP_succ (base pre mg : Nat) (X : Nat → PE) (k : Nat) (t : Tr) : addP base pre mg (revl X (k + 1)) t = match (X k).ob with
    | some o => bif bit pre k && !(bit mg k) then (addP base pre mg (revl X k) t).set (base + k) (some o) else addP base pre mg (revl X k) t
    | none => addP base pre mg (revl X k) t := by
  simp only [revl, addP, revl_length]
  cases (X k).ob <;> rfl

theorem addP_out {base pre mg : Nat} {X : Nat → PE} {t : Tr} {id : Nat} : ∀ {k : Nat}, (∀ j, j < k → id = base + j → (X j).ob = none ∨ bit pre j = false ∨ bit mg j = true) → (addP base pre mg (revl X k) t).get id = t.get id
  | 0, _ => rfl
  | k + 1, h => by
    have ih := addP_out (base := base) (pre := pre) (mg := mg) (X := X) (t := t) (id := id) (k := k) fun j hj he => h j (by omega) he
    rw [addP_succ]
    split
    · rename_i o ho
      cases hb : (bit pre k && !(bit mg k)) with
      | false => rw [cond_false]; exact ih
      | true =>
        rw [cond_true, Tr.get_set]
        have hne : id ≠ base + k := by
          intro he
          simp only [Bool.and_eq_true, Bool.not_eq_true'] at hb
          rcases h k (by omega) he with h | h | h
          · rw [ho] at h; cases h
          · rw [hb.1] at h; cases h
          · rw [hb.2] at h; cases h
        rw [if_neg hne]; exact ih
    · exact ih

theorem addP_in {base pre mg : Nat} {X : Nat → PE} {t : Tr} {j : Nat} {o : AObj} (ho : (X j).ob = some o) (hp : bit pre j = true) (hm : bit mg j = false) : ∀ {k : Nat}, j < k → (addP base pre mg (revl X k) t).get (base + j) = some o
  | 0, h => by omega
  | k + 1, h => by
    rw [addP_succ]
    by_cases hj : j = k
    · subst hj
      rw [ho]
      simp only [hp, hm, Bool.not_false, Bool.and_self, cond_true]
      rw [Tr.get_set, if_pos rfl]
    · have ih := addP_in (base := base) (pre := pre) (mg := mg) (X := X) (t := t) ho hp hm (k := k) (by omega)
      split
      · rename_i o' ho'
        cases hb : (bit pre k && !(bit mg k)) with
        | false => rw [cond_false]; exact ih
        | true => rw [cond_true, Tr.get_set, if_neg (by omega)]; exact ih
      · exact ih

end Go.WeftN
