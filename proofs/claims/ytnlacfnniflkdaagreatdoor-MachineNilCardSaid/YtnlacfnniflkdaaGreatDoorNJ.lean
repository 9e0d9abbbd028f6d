/- append and copy over named objects. -/
import Derived.Test.YtnlacfnniflkdaaGreatDoorNI
namespace Go.WeftN

def appendV (E : Env) (ts : Array TypeId) (s x : Value) (H : AHeap) : Option (Value × AHeap) :=
  match ts.toList with
  | t :: u :: _ => match E.ty t, E.ty u with
    | some i, some k => match i.desc with
      | .slice el => match E.ty el with
        | some j => bif !(isIntD k.desc) && Nat.ble 1 j.size then match srcV H.t j.size x with
          | some vs =>
            let n := srcN x
            match s with
            | .slice none 0 0 =>
              bif Nat.beq n 0 then some (.slice none 0 0, H)
              else bif Nat.ble ((6 * n + 8000) * j.bytes) (2 ^ 48) && Nat.blt n (2 ^ 40) then
                some (.slice (some ⟨H.next, 0, none⟩) n j.size, ⟨H.t.set H.next (some (.cells vs false 0 el)), H.next + 1⟩)
              else none
            | .slice (some ⟨id, off, none⟩) len sz =>
              bif !(Nat.beq sz j.size) then none
              else bif Nat.beq n 0 then some (.slice (some ⟨id, off, none⟩) len sz, H)
              else match H.t.get id with
                | some (.cells cs exact fz elem) =>
                  let pos := off + len * sz
                  bif Nat.ble (pos + n * sz) cs.length then
                    bif Nat.ble fz pos && vs.all oneK then
                      some (.slice (some ⟨id, off, none⟩) (len + n) sz, ⟨H.t.set id (some (.cells (putAll cs vs pos) exact fz elem)), H.next⟩)
                    else none
                  else bif Nat.ble pos cs.length && Nat.ble ((6 * (len + n) + 8000) * j.bytes) (2 ^ 48) && Nat.blt (len + n) (2 ^ 40) then
                    bif exact then
                      some (.slice (some ⟨H.next, 0, none⟩) (len + n) sz, ⟨H.t.set H.next (some (.cells ((cs.drop off).take (len * sz) ++ vs) false 0 el)), H.next + 1⟩)
                    else bif Nat.ble fz pos && vs.all oneK && Nat.beq elem el then
                      some (.slice (some ⟨H.next, 0, none⟩) (len + n) sz, ⟨(H.t.set id none).set H.next (some (.cells ((cs.drop off).take (len * sz) ++ vs) false (fz - off) el)), H.next + 1⟩)
                    else none
                  else none
                | _ => none
            | _ => none
          | none => none
        else none
        | none => none
      | _ => none
    | _, _ => none
  | _ => none

/-- An object takes another one's block over. -/
theorem Out.alias {e : Emb} {H : AHeap} {w : World} (r : Rep e H w) {id : Nat} {o : AObj} {l : Loc} (hi : H.t.get id = some o) (hw : o.writable = true) (hl : e id = some l) (o' : AObj) (l' : Loc) (hb : l'.blk = l.blk) (w' : World)
    (hs : w'.heap.size = w.heap.size) (hk : ∀ b, b ≠ l.blk → w'.heap[b]? = w.heap[b]?) (hos : w'.os = w.os) (hout : w'.output = w.output) (ht : w'.tape = w.tape)
    (ho : ORel (e.add H.next l') o' l' w') : Out e H w (e.add H.next l') ⟨(H.t.set id none).set H.next (some o'), H.next + 1⟩ w' := by
  have hn : e H.next = none := r.fresh _ (Nat.le_refl _)
  have hle := Emb.le_add (e := e) l' hn
  have hidlt := r.lt id o hi
  have hget : ∀ j x, ((H.t.set id none).set H.next (some o')).get j = some x → (j = H.next ∧ x = o') ∨ (j ≠ H.next ∧ j ≠ id ∧ H.t.get j = some x) := by
    intro j x h
    rw [Tr.get_set, Tr.get_set] at h
    split at h
    · rename_i hj; cases h; exact .inl ⟨hj, rfl⟩
    · rename_i hj
      split at h
      · cases h
      · rename_i hj2; exact .inr ⟨hj, hj2, h⟩
  have hadd : ∀ j, j ≠ H.next → e.add H.next l' j = e j := fun j hj => by simp [Emb.add, hj]
  refine { le := hle, rep := ?_, next := by simp, ids := ?_, rom := ?_, size := by omega, keep := ?_, new := ?_, still := fun i hi h => by rw [hadd i (by omega)]; exact h, os := hos, output := hout, tape := ht }
  · refine { obj := ?_, inj := ?_, lt := ?_, fresh := ?_ }
    · intro j x h
      rcases hget j x h with ⟨rfl, rfl⟩ | ⟨hj, hj2, h⟩
      · exact ⟨_, Emb.add_self _ _ _, ho⟩
      · obtain ⟨lj, hlj, hr⟩ := r.obj j x h
        refine ⟨lj, by rw [hadd j hj]; exact hlj, hr.keep hle (hk _ ?_)⟩
        intro hbb
        exact hj2 (r.inj j id x o lj l h hi hlj hl hbb)
    · intro j k oj ok2 lj lk hj hk2 hej hek hbb
      rcases hget j oj hj with ⟨hj', hj1⟩ | ⟨hj', hj3, hj2⟩ <;> rcases hget k ok2 hk2 with ⟨hk', hk1⟩ | ⟨hk', hk3, hk4⟩
      · rw [hj', hk']
      · subst hj'
        rw [Emb.add_self] at hej; rw [hadd k hk'] at hek; cases hej
        exact absurd (r.inj k id ok2 o lk l hk4 hi hek hl (by rw [← hbb, hb])) hk3
      · subst hk'
        rw [Emb.add_self] at hek; rw [hadd j hj'] at hej; cases hek
        exact absurd (r.inj j id oj o lj l hj2 hi hej hl (by rw [hbb, hb])) hj3
      · rw [hadd j hj'] at hej; rw [hadd k hk'] at hek
        exact r.inj j k oj ok2 lj lk hj2 hk4 hej hek hbb
    · intro j x h
      rcases hget j x h with ⟨rfl, rfl⟩ | ⟨_, _, h⟩
      · simp
      · have := r.lt j x h; simp; omega
    · intro j hj
      simp at hj
      rw [hadd j (by omega)]
      exact r.fresh j (by omega)
  · intro j x h
    rcases hget j x h with ⟨rfl, rfl⟩ | ⟨_, _, h⟩
    · exact .inr (Nat.le_refl _)
    · exact .inl ⟨x, h, fun z => z⟩
  · intro j cs h
    have hlt := r.lt j _ h
    simp only
    rw [Tr.get_set, Tr.get_set, if_neg (by omega), if_neg]
    · exact h
    · intro hj; subst hj; rw [hi] at h; cases h; simp [AObj.writable] at hw
  · intro b _ hnb
    exact hk b fun hbl => hnb id o l hi hw hl hbl.symm
  · intro j lj h h'
    by_cases hj : j = H.next
    · subst hj; rw [Emb.add_self] at h'; cases h'; exact .inr ⟨id, o, l, hi, hw, hl, hb.symm⟩
    · rw [hadd j hj, h] at h'; cases h'

theorem rowMore_ok {e : Emb} {cs cs' : List Value} (r : LRel e cs cs') (elem : TypeId) (fz : Nat) (rest : Array Value) (b : Nat) (w : World) (hw : w.heap[b]? = some (.cells (cs'.toArray ++ rest) elem (0, 0))) :
    ORel e (.cells cs false fz elem) ⟨b, 0, cs'.length + rest.size⟩ w := by
  refine ⟨cs'.toArray ++ rest, (0, 0), hw, by simp, by have := r.1; simp; omega, fun h => by simp at h, ?_, .inl rfl⟩
  intro i v hi
  simp only [Nat.zero_add]
  obtain ⟨v', h1, h2⟩ := r.toT.get hi
  have hlt : i < cs'.toArray.size := (Array.getElem?_eq_some_iff.1 h1).1
  exact ⟨v', by rw [Array.getElem?_append_left hlt]; exact h1, h2⟩

theorem oneCells {e : Emb} {vs vs' : List Value} (r : LRel e vs vs') (h : vs.all oneK = true) : ∀ v ∈ vs', v.oneCell' = true := by
  intro u hu
  obtain ⟨k, hk2, hk3⟩ := List.getElem_of_mem hu
  have hlt : k < vs.length := by rw [r.1]; exact hk2
  have := r.2 k vs[k] u (by simp [hlt]) (by simp [← hk3])
  exact this.one (List.all_eq_true.1 h _ (List.getElem_mem hlt))

theorem mul_lt_of {a b c : Nat} (h : a * c < b * c) : a < b := by
  rcases Nat.lt_or_ge a b with h1 | h1
  · exact h1
  · exact absurd h (Nat.not_lt.2 (Nat.mul_le_mul_right c h1))

/-- The part of an append that makes a new row. -/
theorem grow_ok {P : Program} {E : Env} (hE : EnvOk P E) {e : Emb} {H H0 : AHeap} {w : World} (r : Rep e H w) (o0 : Out e H w e H0 w) (hnx : H0.next = H.next) {ts : Array TypeId} {t u el ty : TypeId} {i j k : TI} (h0 : ts[0]? = some t) (h1 : ts[1]? = some u) (ht : E.ty t = some i) (hd : i.desc = .slice el) (hj : E.ty el = some j) (hk : E.ty u = some k)
    (hki : isIntD k.desc = false) (hsz : 1 ≤ j.size) {base : Option Addr} {len cap n : Nat} {x' : Value} {olds old vs vs' : List Value} (ro : LRel e olds old) (rv : LRel e vs vs')
    (hf : ∀ w2 : World, w2.heap = w.heap → (Builtin.lenOf x').run P w2 = .ok n w2 ∧ (Builtin.firstCells j.size n x').run P w2 = .ok vs'.toArray w2)
    (hold : ∀ w2 : World, w2.heap = w.heap → (Builtin.firstCells j.size len (.slice base len cap)).run P w2 = .ok old.toArray w2) (hol : old.length = len * j.size) (hvl : vs'.length = n * j.size)
    (hc : cap < len + n) (hb : (6 * (len + n) + 8000) * j.bytes ≤ 2 ^ 48) (hsm : len + n < 2 ^ 40) (fz : Nat) :
    ∃ v' w' e', (Builtin.append_ ts ty #[.slice base len cap, x']).run P w = .ok v' w' ∧ Out e H w e' ⟨H0.t.set H.next (some (.cells (olds ++ vs) false fz el)), H.next + 1⟩ w' ∧ VRel e' (.slice (some ⟨H.next, 0, none⟩) (len + n) j.size) v' := by
  obtain ⟨nc, hnc, hrun⟩ := run_append_grow (ty := ty) hE h0 h1 ht hd hj hk hki (hf w rfl).1 (hf w rfl).2 (hold w.drew rfl) (hf w.drew rfl).2 hc hb hsm
  have hzs : j.zero.cells.size = j.size := hE.zsize el j hj
  have hrest : (Builtin.zeroCells j.zero.cells (nc - (len + n))).size = (nc - (len + n)) * j.size := by rw [zeroCells_eq]; simp [zerosV_length, hzs]
  have htot : (old ++ vs').length + (Builtin.zeroCells j.zero.cells (nc - (len + n))).size = nc * j.size := by
    rw [hrest, List.length_append, hol, hvl, ← Nat.add_mul, ← Nat.add_mul]; congr 1; omega
  have hrow : ∀ w1 : World, w1.heap[w.heap.size]? = some (.cells (old.toArray ++ vs'.toArray ++ Builtin.zeroCells j.zero.cells (nc - (len + n))) el (0, 0)) →
      ORel (e.add H.next ⟨w.heap.size, 0, nc * j.size⟩) (.cells (olds ++ vs) false fz el) ⟨w.heap.size, 0, nc * j.size⟩ w1 := by
    intro w1 hw1
    have hle := Emb.le_add (e := e) ⟨w.heap.size, 0, nc * j.size⟩ (r.fresh H.next (Nat.le_refl _))
    have := rowMore_ok ((ro.append rv).mono hle) el fz (Builtin.zeroCells j.zero.cells (nc - (len + n))) w.heap.size w1 (by simpa using hw1)
    rwa [htot] at this
  have oa := Out.alloc o0.rep (.cells (olds ++ vs) false fz el) (.cells (old.toArray ++ vs'.toArray ++ Builtin.zeroCells j.zero.cells (nc - (len + n))) el (0, 0)) (nc * j.size)
    (by rw [hnx]; exact hrow _ (by simp))
  rw [hnx] at oa
  refine ⟨_, _, _, hrun, (o0.trans oa r).drawn _, ?_⟩
  exact .slice (off := 0) (l := ⟨w.heap.size, 0, nc * j.size⟩) (Emb.add_self _ _ _) (by omega) hnc (by simp)

set_option maxHeartbeats 1000000 in
theorem appendV_ok {P : Program} {E : Env} (hE : EnvOk P E) {e : Emb} {H H' : AHeap} {w : World} (r : Rep e H w) {ts : Array TypeId} {ty : TypeId} {s s' x x' v : Value} (rs : VRel e s s') (rx : VRel e x x') (h : appendV E ts s x H = some (v, H')) :
    ∃ v' w' e', (Builtin.append_ ts ty #[s', x']).run P w = .ok v' w' ∧ Out e H w e' H' w' ∧ VRel e' v v' := by
  unfold appendV at h
  split at h
  · rename_i t u rest hts
    have h0 : ts[0]? = some t := by rw [← Array.getElem?_toList, hts]; rfl
    have h1 : ts[1]? = some u := by rw [← Array.getElem?_toList, hts]; rfl
    split at h
    · rename_i i k hi hk
      split at h
      · rename_i el hd
        split at h
        · rename_i j hj
          cases hb : (!(isIntD k.desc) && Nat.ble 1 j.size) with
          | false => rw [hb] at h; cases h
          | true =>
            rw [hb, cond_true] at h
            simp only [Bool.and_eq_true, Bool.not_eq_true'] at hb
            obtain ⟨hki, hsz⟩ := hb
            have hsz1 : 1 ≤ j.size := Nat.le_of_ble_eq_true hsz
            split at h
            · rename_i vs hvs
              obtain ⟨vs', hr, hn, hf⟩ := srcV_ok (P := P) r rx hvs
              simp only at h
              split at h
              · -- nil
                cases rs
                cases hz : Nat.beq (srcN x) 0 with
                | true =>
                  rw [hz, cond_true] at h; cases h
                  have hz0 := Nat.eq_of_beq_eq_true hz
                  have hf0 := hf w rfl
                  rw [hz0] at hf0
                  exact ⟨_, w, e, run_append_fit_nil hE h0 h1 hi hd hj hk hki hf0.1 hf0.2, Out.refl r, .nilSlice⟩
                | false =>
                  rw [hz, cond_false] at h
                  have hzn : srcN x ≠ 0 := by intro hx; rw [hx] at hz; cases hz
                  cases hb2 : (Nat.ble ((6 * srcN x + 8000) * j.bytes) (2 ^ 48) && Nat.blt (srcN x) (2 ^ 40)) with
                  | false => rw [hb2] at h; cases h
                  | true =>
                    rw [hb2, cond_true] at h; cases h
                    simp only [Bool.and_eq_true] at hb2
                    have hb3 := Nat.le_of_ble_eq_true hb2.1
                    have hb4 : srcN x < 2 ^ 40 := Nat.le_of_ble_eq_true hb2.2
                    obtain ⟨v', w', e', q1, q2, q3⟩ := grow_ok (P := P) (ty := ty) hE r (Out.refl r) rfl h0 h1 hi hd hj hk hki hsz1 (base := none) (len := 0) (cap := 0) (n := srcN x) (olds := []) (old := []) (.nil e) hr hf
                      (fun w2 _ => by simp [Builtin.firstCells]) (by simp) hn (by omega) (by simpa using hb3) (by simpa using hb4) 0
                    exact ⟨v', w', e', q1, by simpa using q2, by simpa using q3⟩
              · -- a slice of a row
                rename_i id off len sz
                cases hs : Nat.beq sz j.size with
                | false => rw [hs] at h; cases h
                | true =>
                  rw [hs] at h; simp only [Bool.not_true, cond_false] at h
                  obtain rfl := Nat.eq_of_beq_eq_true hs
                  cases rs with
                  | slice hl hE0 hlen hav =>
                    rename_i cap l
                    cases hz : Nat.beq (srcN x) 0 with
                    | true =>
                      rw [hz, cond_true] at h; cases h
                      have hz0 := Nat.eq_of_beq_eq_true hz
                      have hvl : vs' = [] := by rw [hz0, Nat.zero_mul] at hn; exact List.length_eq_zero_iff.1 hn
                      subst hvl
                      have hrun := run_append_fit (ty := ty) (a := ⟨l.blk, l.base + off, none⟩) (len := len) (cap := cap) (w' := w) hE h0 h1 hi hd hj hk hki (hf w rfl).1 (hf w rfl).2 (by omega) (by simp [storeCells])
                      rw [hz0, Nat.add_zero] at hrun
                      exact ⟨_, w, e, hrun, Out.refl r, .slice hl hE0 hlen hav⟩
                    | false =>
                      rw [hz, cond_false] at h
                      have hzn : srcN x ≠ 0 := by intro hx; rw [hx] at hz; cases hz
                      split at h
                      · rename_i cs exact_ fz elem ho
                        obtain ⟨l2, hl2, hrel⟩ := r.obj id _ ho
                        rw [hl] at hl2; cases hl2
                        obtain ⟨c, fr, hc, hcsz, hcle, hex, hcv, hfr⟩ := hrel
                        cases hfit : Nat.ble (off + len * j.size + srcN x * j.size) cs.length with
                        | true =>
                          rw [hfit, cond_true] at h
                          have hfit' := Nat.le_of_ble_eq_true hfit
                          cases hb2 : (Nat.ble fz (off + len * j.size) && vs.all oneK) with
                          | false => rw [hb2] at h; cases h
                          | true =>
                            rw [hb2, cond_true] at h; cases h
                            simp only [Bool.and_eq_true] at hb2
                            have hcap : len + srcN x ≤ cap := by
                              have : (len + srcN x) * j.size ≤ cap * j.size := by rw [Nat.add_mul]; omega
                              exact Nat.le_of_mul_le_mul_right this (by omega)
                            have hvl : vs.length = srcN x * j.size := by rw [hr.1]; exact hn
                            obtain ⟨w', hst, hout⟩ := write_ok (P := P) r ho hl hr (oneCells hr hb2.2) (off := off + len * j.size) (by omega) (Nat.le_of_ble_eq_true hb2.1)
                            have hrun := run_append_fit (ty := ty) (a := ⟨l.blk, l.base + off, none⟩) (len := len) (cap := cap) (w' := w') hE h0 h1 hi hd hj hk hki (hf w rfl).1 (hf w rfl).2 hcap (by rw [addr_add, Nat.add_assoc]; exact hst)
                            exact ⟨_, w', e, hrun, hout, .slice hl hE0 hcap hav⟩
                        | false =>
                          rw [hfit, cond_false] at h
                          have hfit' : ¬ (off + len * j.size + srcN x * j.size ≤ cs.length) := by intro hx; rw [Nat.ble_eq_true_of_le hx] at hfit; cases hfit
                          cases hb2 : (Nat.ble (off + len * j.size) cs.length && Nat.ble ((6 * (len + srcN x) + 8000) * j.bytes) (2 ^ 48) && Nat.blt (len + srcN x) (2 ^ 40)) with
                          | false => rw [hb2] at h; cases h
                          | true =>
                            rw [hb2, cond_true] at h
                            simp only [Bool.and_eq_true] at hb2
                            obtain ⟨⟨hp, hb3⟩, hb4⟩ := hb2
                            have hp' := Nat.le_of_ble_eq_true hp
                            have hb3' := Nat.le_of_ble_eq_true hb3
                            have hb4' : len + srcN x < 2 ^ 40 := Nat.le_of_ble_eq_true hb4
                            have hread : readV H.t id off (len * j.size) = some ((cs.drop off).take (len * j.size)) := by
                              unfold readV
                              rw [ho]
                              simp only [cellsOf]
                              rw [Nat.ble_eq_true_of_le hp', cond_true]
                            obtain ⟨old, hro, hol, hold⟩ := readRun (P := P) r hl hread
                            have hold' : ∀ w2 : World, w2.heap = w.heap → (Builtin.firstCells j.size len (.slice (some ⟨l.blk, l.base + off, none⟩) len cap)).run P w2 = .ok old.toArray w2 := fun w2 hw2 => by
                              simpa [Builtin.firstCells] using hold w2 hw2
                            cases hexb : exact_ with
                            | true =>
                              rw [hexb, cond_true] at h; cases h
                              have hcap : cap < len + srcN x := by
                                have h2 := (hex hexb).1
                                have : cap * j.size < (len + srcN x) * j.size := by rw [Nat.add_mul]; omega
                                exact mul_lt_of this
                              exact grow_ok (P := P) (ty := ty) hE r (Out.refl r) rfl h0 h1 hi hd hj hk hki hsz1 hro hr hf hold' hol hn hcap hb3' hb4' 0
                            | false =>
                              rw [hexb, cond_false] at h
                              cases hb5 : (Nat.ble fz (off + len * j.size) && vs.all oneK && Nat.beq elem el) with
                              | false => rw [hb5] at h; cases h
                              | true =>
                                rw [hb5, cond_true] at h; cases h
                                simp only [Bool.and_eq_true] at hb5
                                obtain ⟨⟨hf1, hone⟩, hel⟩ := hb5
                                have hf1' := Nat.le_of_ble_eq_true hf1
                                obtain rfl := Nat.eq_of_beq_eq_true hel
                                by_cases hcap : len + srcN x ≤ cap
                                · -- in place
                                  have hav2 : (len + srcN x) * j.size ≤ cap * j.size := Nat.mul_le_mul_right _ hcap
                                  rw [Nat.add_mul] at hav2
                                  have hst := run_storeCells_mine (P := P) vs' (l.base + (off + len * j.size)) 0 c w hc (oneCells hr hone) (by omega) (by rcases hfr with h | h <;> omega)
                                  have hrun := run_append_fit (ty := ty) (a := ⟨l.blk, l.base + off, none⟩) (len := len) (cap := cap) hE h0 h1 hi hd hj hk hki (hf w rfl).1 (hf w rfl).2 hcap (by rw [addr_add, Nat.add_assoc]; exact hst)
                                  have hblt : l.blk < w.heap.size := (Array.getElem?_eq_some_iff.1 hc).1
                                  have hle := Emb.le_add (e := e) ⟨l.blk, l.base + off, l.av - off⟩ (r.fresh H.next (Nat.le_refl _))
                                  refine ⟨_, _, _, hrun, Out.alias r ho rfl hl _ ⟨l.blk, l.base + off, l.av - off⟩ rfl _ putCells_size (fun b hb => putCells_other hb) rfl rfl rfl ?_, ?_⟩
                                  · refine ⟨_, fr, putCells_heap hblt, ?_, ?_, (fun hx => by cases hx), ?_, ?_⟩
                                    · simp only [List.size_toArray, putAll_length, Array.length_toList]; omega
                                    · simp only [List.length_append, List.length_take, List.length_drop]; have := hr.1; omega
                                    · intro m y hm
                                      simp only [Nat.add_zero]
                                      rw [List.getElem?_toArray, putAll_get vs' c.toList _ _ (by simp; omega)]
                                      by_cases hml : m < len * j.size
                                      · rw [List.getElem?_append_left (by simp; omega)] at hm
                                        rw [if_neg (by omega)]
                                        rw [List.getElem?_take_of_lt hml, List.getElem?_drop] at hm
                                        obtain ⟨y', hy', hyr⟩ := hcv (off + m) y hm
                                        exact ⟨y', by rw [Nat.add_assoc]; simpa using hy', hyr.mono hle⟩
                                      · have hlen3 : ((cs.drop off).take (len * j.size)).length = len * j.size := by simp; omega
                                        rw [List.getElem?_append_right (by omega), hlen3] at hm
                                        have hmv : m - len * j.size < vs.length := (List.getElem?_eq_some_iff.1 hm).1
                                        have hvl := hr.1
                                        rw [if_pos (by omega)]
                                        rw [show l.base + off + m - (l.base + (off + len * j.size)) = m - len * j.size by omega]
                                        exact ⟨vs'[m - len * j.size]'(by omega), by simp, (hr.2 _ y _ hm (by simp)).mono hle⟩
                                    · rcases hfr with h | h
                                      · exact .inl h
                                      · exact .inr (by simp only; omega)
                                  · exact .slice (off := 0) (l := ⟨l.blk, l.base + off, l.av - off⟩) (Emb.add_self _ _ _) (by omega) hcap (by simp only; omega)
                                · -- a new row
                                  have hnr : ∀ cs2, H.t.get id ≠ some (.rom cs2) := fun cs2 hx => by rw [ho] at hx; cases hx
                                  exact grow_ok (P := P) (ty := ty) hE r (Out.forget r id hnr) rfl h0 h1 hi hd hj hk hki hsz1 hro hr hf hold' hol hn (by omega) hb3' hb4' (fz - off)
                      · cases h
              · cases h
            · cases h
        · cases h
      · cases h
    · cases h
  · cases h

/-! ### append of make, to a nil slice -/
def appendMakeV (E : Env) (ts : Array TypeId) (s x : Value) : Option Mk :=
  match ts.toList with
  | t :: u :: _ => match E.ty t, E.ty u with
    | some i, some k => match i.desc, s, x with
      | .slice el, .slice none 0 0, .int _ (.ofNat m) => match E.ty el with
        | some j => bif isIntD k.desc && Nat.ble 1 j.size && Nat.ble 1 m && Nat.ble ((6 * m + 8000) * j.bytes) (2 ^ 48) && Nat.blt m (2 ^ 40) && (IntKind.i64.wrap (.ofNat m) == .ofNat m) then
            some ⟨.cells (zerosV j.zero.cells.toList m) false 0 el, fun id => .slice (some ⟨id, 0, none⟩) m j.size⟩
          else none
        | none => none
      | _, _, _ => none
    | _, _ => none
  | _ => none

theorem run_append_make {P : Program} {E : Env} (hE : EnvOk P E) {ts : Array TypeId} {t u el ty : TypeId} {i j k : TI} (h0 : ts[0]? = some t) (h1 : ts[1]? = some u) (ht : E.ty t = some i) (hd : i.desc = .slice el) (hj : E.ty el = some j) (hk : E.ty u = some k) (hki : isIntD k.desc = true)
    {kk : IntKind} {m : Nat} (hsz : 1 ≤ j.size) (hm : 1 ≤ m) (hb : (6 * m + 8000) * j.bytes ≤ 2 ^ 48) (hsm : m < 2 ^ 40) (hwr : IntKind.i64.wrap (.ofNat m) = .ofNat m) (w : World) :
    ∃ nc, m ≤ nc ∧ (Builtin.append_ ts ty #[.slice none 0 0, .int kk (.ofNat m)]).run P w = .ok (.slice (some ⟨w.heap.size, 0, none⟩) m nc)
      { w with heap := w.heap.push (.cells (Builtin.zeroCells j.zero.cells m ++ Builtin.zeroCells j.zero.cells (nc - m)) el), drawn := w.drawn + 1 } := by
  have hu := hE.und t i ht
  have hu2 := hE.und u k hk
  rw [hd] at hu
  refine ⟨m + (w.tape w.drawn (.appendCap m 0 el)) % (2 ^ 63 - m), by omega, ?_⟩
  obtain ⟨ji, hji, hjb⟩ := run_bytes hE hj w
  obtain ⟨ji2, hji2, hjb2⟩ := run_bytes hE hj w.drew
  cases hdd : k.desc <;> rw [hdd] at hki hu2 <;> first
    | (simp [isIntD] at hki; done)
    | skip
  have hch : (choose (.appendCap m 0 el)).run P w = .ok (m + (w.tape w.drawn (.appendCap m 0 el)) % (2 ^ 63 - m)) w.drew := rfl
  have hle : Builtin.nextslicecap m 0 * j.bytes ≤ 2 ^ 48 := Nat.le_trans (Nat.mul_le_mul_right _ (nextslicecap_le (by omega))) hb
  have hmb : m * j.bytes ≤ 2 ^ 48 := Nat.le_trans (Nat.mul_le_mul_right _ (by omega)) hb
  have hms : ¬ m * j.size = 0 := by
    intro hx
    rcases Nat.mul_eq_zero.1 hx with h | h <;> omega
  have hpos : ¬ ((Int.ofNat m) < 0) := by simp
  have hbig : ¬ ((Int.ofNat m) * ((j.bytes : Nat) : Int) > 2 ^ 48) := by
    have : ((m * j.bytes : Nat) : Int) ≤ ((2 ^ 48 : Nat) : Int) := Int.ofNat_le.2 hmb
    simp only [Int.natCast_mul] at this
    simp only [Int.ofNat_eq_natCast]
    omega
  have hmax : IntKind.i64.max = 9223372036854775807 := by decide
  unfold Builtin.append_
  simp only [h0, h1, List.getElem?_toArray, List.getElem?_cons_zero, List.getElem?_cons_succ, Sem.run_bind, run_underlying hu, Result.andThen_ok, run_size hE hj, run_underlying hu2, Sem.run_pure]
  simp only [if_true, Sem.run_bind, asInt, asIntOf, Sem.run_pure, Result.andThen_ok, hwr]
  rw [if_neg hpos]
  simp only [Sem.run_bind, Result.andThen_ok, hji, hjb]
  rw [if_neg hbig]
  simp only [Sem.run_bind, Sem.run_pure, Result.andThen_ok, Int.ofNat_eq_natCast, Int.toNat_natCast, Nat.zero_add]
  rw [if_neg (by omega)]
  simp only [Sem.run_bind, hji, Result.andThen_ok]
  rw [if_neg (by intro hx; omega)]
  simp only [Sem.run_bind, hji, Result.andThen_ok, hjb]
  rw [if_neg (by omega)]
  simp only [Sem.run_bind, hch, Result.andThen_ok, hji2, run_askRoom, Bool.not_true, Bool.false_eq_true, if_false]
  rw [if_neg hms]
  simp [run_zero hE hj, newRow, Builtin.firstCells]
  rfl

theorem appendMakeV_ok {P : Program} {E : Env} (hE : EnvOk P E) {e : Emb} {ts : Array TypeId} {ty : TypeId} {s s' x x' : Value} (rs : VRel e s s') (rx : VRel e x x') {m : Mk} (h : appendMakeV E ts s x = some m) : MkOk P e (Builtin.append_ ts ty #[s', x']) m := by
  unfold appendMakeV at h
  split at h
  · rename_i t u rest hts
    have h0 : ts[0]? = some t := by rw [← Array.getElem?_toList, hts]; rfl
    have h1 : ts[1]? = some u := by rw [← Array.getElem?_toList, hts]; rfl
    split at h
    · rename_i i k hi hk
      split at h
      · rename_i el kk n hd
        split at h
        · rename_i j hj
          cases hb : (isIntD k.desc && Nat.ble 1 j.size && Nat.ble 1 n && Nat.ble ((6 * n + 8000) * j.bytes) (2 ^ 48) && Nat.blt n (2 ^ 40) && (IntKind.i64.wrap (.ofNat n) == .ofNat n)) with
          | false => rw [hb] at h; cases h
          | true =>
            rw [hb, cond_true] at h; cases h
            simp only [Bool.and_eq_true, beq_iff_eq] at hb
            obtain ⟨⟨⟨⟨⟨b1, b2⟩, b3⟩, b4⟩, b5⟩, b6⟩ := hb
            cases rs
            cases rx
            intro w id hid
            have hb5 : n < 2 ^ 40 := Nat.le_of_ble_eq_true b5
            obtain ⟨nc, hnc, hrun⟩ := run_append_make (P := P) (ty := ty) (kk := kk) hE h0 h1 hi hd hj hk b1 (Nat.le_of_ble_eq_true b2) (Nat.le_of_ble_eq_true b3) (Nat.le_of_ble_eq_true b4) hb5 b6 w
            have hzs : j.zero.cells.size = j.size := hE.zsize el j hj
            have hl : (zerosV j.zero.cells.toList n).length = n * j.size := by rw [zerosV_length]; simp [hzs]
            have hz : LRel e (zerosV j.zero.cells.toList n) (zerosV j.zero.cells.toList n) := LRel.zeros ((hE.zero el j hj e).cells (hE.zknown el j hj)).toL n
            refine ⟨_, _, nc * j.size, _, hrun, fun w1 hw1 => ?_⟩
            have hle := Emb.le_add (e := e) ⟨w.heap.size, 0, nc * j.size⟩ hid
            have htot : (zerosV j.zero.cells.toList n).length + (Builtin.zeroCells j.zero.cells (nc - n)).size = nc * j.size := by
              rw [hl, zeroCells_eq]; simp only [List.size_toArray, zerosV_length, Array.length_toList, hzs]
              rw [← Nat.add_mul]; congr 1; omega
            have := rowMore_ok (hz.mono hle) el 0 (Builtin.zeroCells j.zero.cells (nc - n)) w.heap.size w1 (by rw [hw1, zeroCells_eq])
            rw [htot] at this
            exact ⟨this, .slice (off := 0) (l := ⟨w.heap.size, 0, nc * j.size⟩) (Emb.add_self _ _ _) (Nat.le_of_ble_eq_true b2) hnc (by simp)⟩
        · cases h
      · cases h
    · cases h
  · cases h

end Go.WeftN
