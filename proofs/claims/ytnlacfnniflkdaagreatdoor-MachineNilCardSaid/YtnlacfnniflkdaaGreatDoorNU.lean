/- Code, piece by piece. -/
import Derived.Test.YtnlacfnniflkdaaGreatDoorNT
namespace Go.WeftN

/-- One of a piece's ends is met. -/
def CodeMet (P : Program) (fi : FI) (e : Emb) (H : AHeap) (w : World) (b : Frame) (m0 : Machine) (k : List Item) (cs : List Frame) (rs : List Res) : Prop :=
  ∃ x a' H', .code x a' H' ∈ rs ∧ ∃ e' w' ca' m', Out e H w e' H' w' ∧ ActRel e' a' ca' ∧ UpRel fi.dfr e' a'.up m' ∧ Ends P e' m0 b k (withMode fi.dfr cs m') ca' w' x

theorem CodeMet.of {P : Program} {fi : FI} {e e1 : Emb} {H H1 : AHeap} {w w1 : World} {b : Frame} {m0 m1 : Machine} {k : List Item} {cs : List Frame} {rs rs1 : List Res} (r : Rep e H w) (o : Out e H w e1 H1 w1) (hs : Steps P m0 m1) (hsub : ∀ z ∈ rs1, z ∈ rs)
    (h : CodeMet P fi e1 H1 w1 b m1 k cs rs1) : CodeMet P fi e H w b m0 k cs rs := by
  obtain ⟨x, a', H', hin, e', w', ca', m', o', h1, h2, h3⟩ := h
  exact ⟨x, a', H', hsub _ hin, e', w', ca', m', o.trans o' r, h1, h2, h3.of_steps hs⟩

theorem CodeMet.one {P : Program} {fi : FI} {e : Emb} {H : AHeap} {w : World} {b : Frame} {m0 : Machine} {k : List Item} {cs : List Frame} {a : AAct} {ca : Act} {m : FrameMode} {x : Ex} (r : Rep e H w) (ha : ActRel e a ca) (hu : UpRel fi.dfr e a.up m)
    (h : Ends P e m0 b k (withMode fi.dfr cs m) ca w x) : CodeMet P fi e H w b m0 k cs [.code x a H] :=
  ⟨x, a, H, List.mem_singleton.2 rfl, e, w, ca, m, Out.refl r, ha, hu, h⟩

section
variable {P : Program} {T : Tab} {R : Nat → Option (List Value)} (hT : TabOk P T R) {ec : EC} (hec : Meets P T R ec) {fi : FI} {b : Frame} {k : List Item} {cs : List Frame} (hcs : fi.dfr = true → cs ≠ [])
include hT hec hcs

theorem seqOps_met {ops : Array Oper} : ∀ (l : List Oper) (j : Nat), ops.toList.drop j = l → ∀ {a : AAct} {H : AHeap} {rs : List Res}, seqOps T ec fi ops l a H = some rs → ∀ {e : Emb} {w : World} {ca : Act} {m : FrameMode}, Rep e H w → Base T R e H → FiRel e fi b → ActRel e a ca → UpRel fi.dfr e a.up m →
    CodeMet P fi e H w b (lone (b.atR ca (.inRegion ops (List.range' j l.length) :: k)) (withMode fi.dfr cs m) w) k cs rs
  | [], j, hl, a, H, rs, h, e, w, ca, m, r, hb, hfi, ha, hu => by
    rw [seqOps_nil] at h; cases h
    exact CodeMet.one r ha hu (.one stepR_region_end)
  | o :: l, j, hl, a, H, rs, h, e, w, ca, m, r, hb, hfi, ha, hu => by
    have ho : ops[j]? = some o := by
      have : (ops.toList.drop j)[0]? = some o := by rw [hl]; rfl
      rw [List.getElem?_drop] at this
      simpa using this
    have hl2 : ops.toList.drop (j + 1) = l := by
      have : (ops.toList.drop j).tail = l := by rw [hl]; rfl
      rw [← this]; simp
    have hrange : List.range' j (o :: l).length = j :: List.range' (j + 1) l.length := by simp [List.range'_succ]
    rw [hrange]
    rw [seqOps_cons] at h
    split at h
    · cases h
    · rename_i hw
      have hw2 := wanted_rel ha.1 hw
      have hsk := stepR_op_skip (P := P) (b := b) (a := ca) (k := k) (cs := withMode fi.dfr cs m) (w := w) (ops := ops) (i := j) (rest := List.range' (j + 1) l.length) (by rw [ho]; simpa using hw2)
      rw [ho] at hsk
      simp only [Option.bind_some] at hsk
      exact (seqOps_met l (j + 1) hl2 h r hb hfi (ha.put o.dst (undef_rel e)) hu).of r (Out.refl r) (.one hsk) (fun z hz => hz)
    · rename_i hw
      have hw2 := wanted_rel ha.1 hw
      split at h
      · cases h
      · rename_i ors hor
        obtain ⟨res, hin, hmet⟩ := opRun_met hT hec (k := k) (rest := List.range' (j + 1) l.length) ho hw2 r hb hfi ha hu hcs hor
        obtain ⟨zs, hz, hsub⟩ := bindL_mem h hin
        cases res with
        | next a1 H1 =>
          simp only at hz
          obtain ⟨e1, w1, ca1, m1, o1, ha1, hu1, hst⟩ := hmet
          exact (seqOps_met l (j + 1) hl2 hz o1.rep (hb.out o1) (hfi.mono o1.le) ha1 hu1).of r o1 hst hsub
        | panic ch a1 H1 =>
          simp only at hz; cases hz
          obtain ⟨e1, w1, ca1, m1, k', ch', o1, ha1, hu1, hch, hst⟩ := hmet
          exact ⟨_, _, _, hsub _ (List.mem_singleton.2 rfl), e1, w1, ca1, m1, o1, ha1, hu1, k', ch', hch, hst⟩

end

section
variable {P : Program} {T : Tab} {R : Nat → Option (List Value)} {ec : EC} (hec : Meets P T R ec) {fi : FI} {b : Frame} {k : List Item} {cs : List Frame} (hcs : fi.dfr = true → cs ≠ [])
include hec hcs

theorem scopeRun_met {body : Code} : ∀ (n : Nat) {c : Code} {a : AAct} {H : AHeap} {rs : List Res}, scopeRun ec fi body n c a H = some rs → ∀ {e : Emb} {w : World} {ca : Act} {m : FrameMode}, Rep e H w → Base T R e H → FiRel e fi b → ActRel e a ca → UpRel fi.dfr e a.up m →
    CodeMet P fi e H w b (lone (b.atR ca (.code c :: .inScope body :: k)) (withMode fi.dfr cs m) w) k cs rs
  | 0, c, a, H, rs, h, e, w, ca, m, r, hb, hfi, ha, hu => by simp [scopeRun] at h
  | n + 1, c, a, H, rs, h, e, w, ca, m, r, hb, hfi, ha, hu => by
    simp only [scopeRun] at h
    split at h
    · cases h
    · rename_i rs0 hrs0
      obtain ⟨x, a1, H1, hin, e1, w1, ca1, m1, o1, ha1, hu1, hend⟩ := hec _ _ _ hrs0 e w b (.inScope body :: k) cs m ca r hb hfi ha hu hcs
      obtain ⟨zs, hz, hsub⟩ := bindL_mem h hin
      have hex : ∀ id, exitTo id (.inScope body :: k) = exitTo id k := fun id => by simp [exitTo]
      cases x with
      | normal =>
        simp only at hz; cases hz
        have hst : step P (lone (b.atR ca1 (.inScope body :: k)) (withMode fi.dfr cs m1) w1) = .next (lone (b.atR ca1 k) (withMode fi.dfr cs m1) w1) :=
          step_lone_go (by simp [stepG, stepG.exec, Frame.atR])
        exact ⟨_, _, _, hsub _ (List.mem_singleton.2 rfl), e1, w1, ca1, m1, o1, ha1, hu1, Steps.trans hend (.one hst)⟩
      | exit id =>
        simp only at hz; cases hz
        obtain ⟨k', hk, hx⟩ := hend
        exact ⟨_, _, _, hsub _ (List.mem_singleton.2 rfl), e1, w1, ca1, m1, o1, ha1, hu1, k', hk, hx.trans (hex id)⟩
      | ret =>
        simp only at hz; cases hz
        exact ⟨_, _, _, hsub _ (List.mem_singleton.2 rfl), e1, w1, ca1, m1, o1, ha1, hu1, hend⟩
      | panic ch =>
        simp only at hz; cases hz
        exact ⟨_, _, _, hsub _ (List.mem_singleton.2 rfl), e1, w1, ca1, m1, o1, ha1, hu1, hend⟩
      | goto l =>
        simp only at hz
        obtain ⟨k', hk, hx⟩ := hend
        split at hz
        · rename_i rest hrest
          have hg : gotoIn l k' = some (.code rest :: .inScope body :: k) := by rw [hx]; simp [gotoIn, hrest]
          have hst := stepR_goto (P := P) (b := b) (a := ca1) (k := k') (cs := withMode fi.dfr cs m1) (w := w1) hg
          exact (scopeRun_met n hz o1.rep (hb.out o1) (hfi.mono o1.le) ha1 hu1).of r o1 (hk.trans (.one hst)) hsub
        · rename_i hnone
          cases hz
          refine ⟨_, _, _, hsub _ (List.mem_singleton.2 rfl), e1, w1, ca1, m1, o1, ha1, hu1, k', hk, ?_⟩
          rw [hx]; simp [gotoIn, hnone]
end

end Go.WeftN
