/- Regions whose order is drawn are met: whatever the order. -/
import Derived.Test.YtnlacfnniflkdaaGreatDoorNZh
namespace Go.WeftN

/-- How many have not run. -/
def cntS (S : Nat → Bool) : Nat → Nat
  | 0 => 0
  | n + 1 => bif S n then cntS S n else cntS S n + 1

theorem cntS_zero {S : Nat → Bool} : ∀ {n : Nat}, cntS S n = 0 → ∀ i, i < n → S i = true
  | 0, _, i, hi => by omega
  | n + 1, h, i, hi => by
    simp only [cntS] at h
    cases hs : S n with
    | false => rw [hs, cond_false] at h; omega
    | true =>
      rw [hs, cond_true] at h
      by_cases hin : i = n
      · subst hin; exact hs
      · exact cntS_zero h i (by omega)
theorem cntS_keep {S : Nat → Bool} {k : Nat} : ∀ {n : Nat}, n ≤ k → cntS (addS S k) n = cntS S n
  | 0, _ => rfl
  | n + 1, h => by
    simp only [cntS]
    rw [addS_ne (by omega), cntS_keep (by omega)]
theorem cntS_add {S : Nat → Bool} {k : Nat} (hk : S k = false) : ∀ {n : Nat}, k < n → cntS S n = cntS (addS S k) n + 1
  | 0, h => by omega
  | n + 1, h => by
    simp only [cntS]
    by_cases hkn : k = n
    · subst hkn
      rw [hk, addS_self, cond_false, cond_true, cntS_keep (Nat.le_refl _)]
    · rw [addS_ne (Ne.symm hkn), cntS_add hk (by omega : k < n)]
      cases S n <;> rfl
theorem cntS_le (S : Nat → Bool) : ∀ n, cntS S n ≤ n
  | 0 => Nat.le_refl _
  | n + 1 => by
    have := cntS_le S n
    simp only [cntS]
    cases S n with
    | true => rw [cond_true]; omega
    | false => rw [cond_false]; omega

section
variable {T : Tab} {ec : EC} {fi : FI} {ops : Array Oper} {e0 : Emb} {H0 : AHeap} {w0 : World} {a0 : AAct} {X : Nat → PE} {ST : Nat → St} {c : Nat → Nat}
  (hF : ∀ k o, ops[k]? = some o → KFact T ec fi ops a0 H0.next X ST c k o)
  {P : Program} {R : Nat → Option (List Value)} (hT : TabOk P T R) (hec : Meets P T R ec)
include hF hT hec

theorem runD (h0 : c 0 = 0) (hrd : readsOk H0.next (revl X ops.size) (revl ST (c ops.size + 1)) (revl X ops.size) = true) (hb0 : Base T R e0 H0) (r0 : Rep e0 H0 w0) {b : Frame} (hfi : FiRel e0 fi b) {cs : List Frame} (hcs : fi.dfr = true → cs ≠ []) (kk : List Item) :
    ∀ (fuel t : Nat) (listed : Array Bool) {S : Nat → Bool} {p : Nat} {e : Emb} {w : World} {ca : Act} {m : FrameMode}, Inv fi e0 H0 w0 a0 ops.size X ST c S p e w ca m →
      listed.size = ops.size → (∀ i, i < ops.size → listed[i]? = some (S i)) → cntS S ops.size ≤ fuel →
      ∃ S' e' w' ca' m', Inv fi e0 H0 w0 a0 ops.size X ST c S' (c ops.size) e' w' ca' m' ∧ (∀ i, i < ops.size → S' i = true) ∧
        Steps P (lone (b.atR ca (.inRegion ops (Region.linearise.go .any ops fuel t listed []) :: kk)) (withMode fi.dfr cs m) w) (lone (b.atR ca' kk) (withMode fi.dfr cs m') w') := by
  have done : ∀ {S : Nat → Bool} {p : Nat} {e : Emb} {w : World} {ca : Act} {m : FrameMode}, Inv fi e0 H0 w0 a0 ops.size X ST c S p e w ca m → (∀ i, i < ops.size → S i = true) →
      ∃ S' e' w' ca' m', Inv fi e0 H0 w0 a0 ops.size X ST c S' (c ops.size) e' w' ca' m' ∧ (∀ i, i < ops.size → S' i = true) ∧
        Steps P (lone (b.atR ca (.inRegion ops [] :: kk)) (withMode fi.dfr cs m) w) (lone (b.atR ca' kk) (withMode fi.dfr cs m') w') := by
    intro S p e w ca m inv hall
    have hp : p = c ops.size := by
      rcases Nat.lt_or_ge p (c ops.size) with h | h
      · obtain ⟨j, hj, hcj, hcp⟩ := c_hit hF h0 (Nat.le_refl _) h
        have := (inv.chain j hj hcj).1 (hall j hj)
        omega
      · have := inv.ple; omega
    subst hp
    exact ⟨S, e, w, ca, m, inv, hall, .one stepR_region_end⟩
  intro fuel
  induction fuel with
  | zero =>
    intro t listed S p e w ca m inv hsz hl hcnt
    simp only [Region.linearise.go, List.reverse_nil]
    exact done inv (cntS_zero (by omega))
  | succ fuel ih =>
    intro t listed S p e w ca m inv hsz hl hcnt
    simp only [Region.linearise.go]
    change ∃ S' e' w' ca' m', Inv fi e0 H0 w0 a0 ops.size X ST c S' (c ops.size) e' w' ca' m' ∧ (∀ i, i < ops.size → S' i = true) ∧
        Steps P (lone (b.atR ca (.inRegion ops (match (Region.ready .any ops listed)[t % (Region.ready .any ops listed).length]? with
      | some i => Region.linearise.go .any ops fuel (t / (Region.ready .any ops listed).length) (listed.setIfInBounds i true) [i]
      | none => [].reverse) :: kk)) (withMode fi.dfr cs m) w) (lone (b.atR ca' kk) (withMode fi.dfr cs m') w')
    cases hi : (Region.ready .any ops listed)[t % (Region.ready .any ops listed).length]? with
    | none =>
      have hnil : Region.ready .any ops listed = [] := by
        cases hr : Region.ready .any ops listed with
        | nil => rfl
        | cons x xs =>
          rw [hr] at hi
          have hlt : t % (x :: xs).length < (x :: xs).length := Nat.mod_lt _ (by simp)
          simp at hi
          simp at hlt
          omega
      simp only [List.reverse_nil]
      refine done inv ?_
      intro i hi
      induction i using Nat.strongRecOn with
      | _ i ihi =>
        cases hs : S i with
        | true => rfl
        | false =>
          exfalso
          have hmem : i ∈ Region.ready .any ops listed := by
            rw [mem_ready]
            refine ⟨by simp [Array.getD_eq_getD_getElem?, hl i hi, hs], ops[i], by simp [hi], ?_⟩
            intro ed hed hb
            · obtain ⟨hlt, _⟩ := (preM_spec (hF i ops[i] (by simp [hi])).pre).1 ed (by simpa using hed) hb
              have := ihi ed.on hlt (by omega)
              simp [Array.getD_eq_getD_getElem?, hl ed.on (by omega), this]
          rw [hnil] at hmem
          simp at hmem
    | some k =>
      simp only
      rw [linearise_go_acc, List.reverse_singleton, List.singleton_append]
      obtain ⟨hun, o, ho, hall⟩ := mem_ready.1 (List.mem_of_getElem? hi)
      have hkn : k < ops.size := (Array.getElem?_eq_some_iff.1 ho).1
      have hk : S k = false := by
        have := hl k hkn
        simpa [Array.getD_eq_getD_getElem?, this] using hun
      have hready : ∀ ed ∈ o.after.toList, Region.binds .any ed = true → S ed.on = true := by
        intro ed hed hb
        have h1 := hall ed (by simpa using hed) hb
        obtain ⟨hlt, _⟩ := (preM_spec (hF k o ho).pre).1 ed hed hb
        simpa [Array.getD_eq_getD_getElem?, hl ed.on (by omega)] using h1
      obtain ⟨p1, e1, w1, ca1, m1, inv1, hs1⟩ := stepD hF hT hec h0 hrd hb0 r0 hfi hcs inv ho hk hready (Region.linearise.go .any ops fuel (t / (Region.ready .any ops listed).length) (listed.setIfInBounds k true) []) kk
      have hcn := cntS_add hk hkn
      obtain ⟨S', e', w', ca', m', inv', hall', hs'⟩ := ih (t / (Region.ready .any ops listed).length) (listed.setIfInBounds k true) inv1 (by simpa using hsz) (by
        intro i hi
        by_cases hik : i = k
        · rw [hik, addS_self, Array.getElem?_setIfInBounds_self_of_lt (by rw [hsz]; exact hkn)]
        · rw [Array.getElem?_setIfInBounds_ne (Ne.symm hik), addS_ne hik]; exact hl i hi) (by omega)
      exact ⟨S', e', w', ca', m', inv', hall', hs1.trans hs'⟩
end

theorem drawD_ok {P : Program} {T : Tab} {R : Nat → Option (List Value)} (hT : TabOk P T R) : DrawOk P T R (drawD T) := by
  intro ec hec fi id ops a H rs h e w b k cs m ca r hb hfi ha hu hcs
  unfold drawD at h
  split at h
  · rename_i res st sts hp
    cases hrd : readsOk H.next res (st :: sts) res with
    | false => rw [hrd] at h; cases h
    | true =>
      rw [hrd, cond_true] at h; cases h
      let st0 : St := ⟨a.defers, a.up, ⟨H.t, H.next + ops.toList.length⟩, 0⟩
      obtain ⟨X, ST, c, _, hS0, hc0, hall, hfin⟩ := passD_trace T ec fi ops a H.next ops.toList 0 0 (fun _ => ⟨undef, 0, none, [], none, none, false⟩) (fun _ => st0) hp
      have hF : ∀ k o, ops[k]? = some o → KFact T ec fi ops a H.next X ST c k o := by
        intro k o ho
        have := hall k o (by simpa using ho)
        rw [Nat.zero_add] at this
        exact kfact_of this
      rw [Nat.zero_add, Array.length_toList] at hfin
      simp only [DP.mk.injEq] at hfin
      obtain ⟨hres, hsts⟩ := hfin
      rw [hres, hsts] at hrd
      have hST0 : ST 0 = st0 := hS0 0 (Nat.le_refl _)
      have hres0 := Out.reserve r ops.size
      have inv0 : Inv fi e H w a ops.size X ST c (fun _ => false) 0 e { w with drawn := w.drawn + 1 } ca m := by
        refine { lt := fun i h => (Bool.false_ne_true h).elim, closed := fun i j h => (Bool.false_ne_true h).elim, chain := fun i hi hc => ⟨fun h => (Bool.false_ne_true h).elim, fun h => (Nat.not_lt_zero _ h).elim⟩, ple := Nat.zero_le _, heap := ?_, res := ?_, mg := ?_, unm := ?_, nxt := ?_, tms := ?_, defs := ?_, up := ?_ }
        · refine ⟨⟨H.t, H.next + ops.size⟩, hres0.drawn _, ?_, fun j o h => (Bool.false_ne_true h).elim, fun id _ => ?_⟩
          · rw [hST0]; simp [st0]
          · rw [hST0]
        · intro j hj _
          rw [hST0]
          show H.t.get (H.next + j) = none
          cases hg : H.t.get (H.next + j) with
          | none => rfl
          | some o => have := r.lt _ _ hg; omega
        · intro j hj; rw [hST0] at hj; rw [bit_zero] at hj; cases hj
        · intro j _ _ _; exact r.fresh _ (by omega)
        · rw [hST0]; simp [st0]
        · intro t
          have hl : lookS (fun _ => false) X t ops.size = none := by
            have : ∀ n, lookS (fun _ => false) X t n = none := by
              intro n
              induction n with
              | zero => rfl
              | succ n ih =>
                simp only [lookS, ih, Bool.false_and, cond_false]
                cases (X n).dst <;> rfl
            exact this _
          rw [hl]
          have := ha.1 t
          cases hg : a.tm.get t with
          | none => rw [hg] at this; exact this
          | some v0 => rw [hg] at this; exact this
        · rw [hST0]; exact ha.2
        · rw [hST0]; exact hu
      obtain ⟨S', e', w', ca', m', inv', hallS, hsteps⟩ := runD hF hT hec hc0 hrd hb r hfi hcs k ops.size (w.tape w.drawn (.order b.fn id)) (Array.replicate ops.size false) inv0 (by simp) (by intro i hi; simp [hi]) (cntS_le _ _)
      obtain ⟨Hs, hout, hn, hin, hrest⟩ := inv'.heap
      have hst : st = ST (c ops.size) := by simp only [revl, List.cons.injEq] at hsts; exact hsts.1
      subst hst
      refine ⟨.normal, _, _, List.mem_singleton.2 rfl, e', w', ca', m', ?_, ⟨?_, inv'.defs⟩, inv'.up, ?_⟩
      · refine hout.same (fun i => ?_) hn.symm
        rw [hres, revl_length]
        show (addP H.next (Nat.sub (bitOf ops.size) 1) (ST (c ops.size)).mg (revl X ops.size) (ST (c ops.size)).H.t).get i = Hs.t.get i
        by_cases hx : ∃ j, j < ops.size ∧ i = H.next + j ∧ (X j).ob ≠ none ∧ bit (ST (c ops.size)).mg j = false
        · obtain ⟨j, h1, rfl, h3, h4⟩ := hx
          cases hjo : (X j).ob with
          | none => exact absurd hjo h3
          | some o => rw [addP_in hjo (by rw [bit_full]; simp [h1]) h4 h1, hin j o (hallS j h1) hjo h4]
        · rw [addP_out, hrest]
          · intro j hs hjo hm he
            exact hx ⟨j, inv'.lt j hs, he, hjo, hm⟩
          · intro j hj he
            by_cases h1 : (X j).ob = none
            · exact .inl h1
            · cases h3 : bit (ST (c ops.size)).mg j with
              | true => exact .inr (.inr rfl)
              | false => exact absurd ⟨j, hj, he, h1, h3⟩ hx
      · have h1 := inv'.tmrel
        have h2 : ∀ n, n ≤ ops.size → putsD (revl X n) a.tm = putsS S' X a.tm n := by
          intro n
          induction n with
          | zero => intro _; rfl
          | succ n ih =>
            intro hn
            simp only [revl, putsD, putsS]
            rw [hallS n (by omega), cond_true, ih (by omega)]
        rw [hres, h2 _ (Nat.le_refl _)]
        exact h1
      · show Steps P _ _
        refine .head (stepR_region_draw (P := P)) ?_
        have : Region.schedule (P.follows .mixedOrders) ops (w.tape w.drawn (.order b.fn id)) = Region.linearise .any ops (w.tape w.drawn (.order b.fn id)) := by
          simp only [Region.schedule, hT.mixed, Bool.true_or, if_true]
        rw [this]
        exact hsteps
  · cases h

end Go.WeftN
