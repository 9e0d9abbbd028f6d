/- Maps that are written; walks over maps and texts; copies. -/
import Derived.Test.YtnlacfnniflkdaaGreatDoorNL
namespace Go.WeftN

def World.putObj' (w : World) (b : Nat) (o : Obj) : World := { w with heap := w.heap.setIfInBounds b o }
theorem putObj'_heap {w : World} {b : Nat} {o : Obj} (hb : b < w.heap.size) : (World.putObj' w b o).heap[b]? = some o := by simp [World.putObj', hb]
theorem putObj'_other {w : World} {b k : Nat} {o : Obj} (hb : k ≠ b) : (World.putObj' w b o).heap[k]? = w.heap[k]? := by simp [World.putObj', Array.getElem?_setIfInBounds_ne (Ne.symm hb)]
theorem putObj'_size {w : World} {b : Nat} {o : Obj} : (World.putObj' w b o).heap.size = w.heap.size := by simp [World.putObj']

theorem run_setMap {P : Program} {w : World} {b : Nat} {es : Array MapEntry} {c : Nat} (h : w.heap[b]? = some (.map es c)) (o : Obj) : (setObj b o).run P w = .ok () (World.putObj' w b o) := by
  simp [setObj, Sem.run, h, World.putObj']
theorem run_getMap {P : Program} {w : World} {b : Nat} {es : Array MapEntry} {c : Nat} (h : w.heap[b]? = some (.map es c)) : (getObj b).run P w = .ok (.map es c) w := by
  simp [getObj, Sem.run, h]

def mapUpdateV (E : Env) (t : TypeId) (m k v : Value) (H : AHeap) : Option AHeap :=
  match E.ty t, m with
  | some i, .map (some id) => match i.desc with
    | .map kt _ => match E.ty kt, H.t.get id with
      | some ik, some (.map es clock) => bif plainKeyD ik.desc then match Instr.findNow ik.desc k es 0 with
          | some (some (j, _)) => match es[j]? with
            | some x => some ⟨H.t.set id (some (.map (es.set j { x with key := k, val := v }) clock)), H.next⟩
            | none => none
          | some none => some ⟨H.t.set id (some (.map (es ++ [{ key := k, val := v, born := clock }]) (clock + 1))), H.next⟩
          | none => none
        else none
      | _, _ => none
    | _ => none
  | _, _ => none

theorem findNow_shape {d : TypeDesc} {k : Value} (hd : plainKeyD d = true) : ∀ {es : List MapEntry} {i j : Nat} {v : Value}, Instr.findNow d k es i = some (some (j, v)) → (∃ s, k = .string s) ∨ ∃ kk n, k = .int kk n
  | [], i, j, v, h => by simp [Instr.findNow] at h
  | x :: es, i, j, v, h => by
    cases hs : Instr.sameNow d k x.key with
    | none => simp [Instr.findNow, hs] at h
    | some t =>
      unfold Instr.sameNow at hs
      split at hs
      · exact .inr ⟨_, _, rfl⟩
      · exact .inl ⟨_, rfl⟩
      · simp [plainKeyD] at hd
      · cases hs

theorem run_keyStays {P : Program} {k : Value} (h : (∃ s, k = .string s) ∨ ∃ kk n, k = .int kk n) (w : World) : (Instr.keyThatStays k k).run P w = .ok k w := by
  unfold Instr.keyThatStays
  have : Instr.sameBits 10000 k k = true := by
    rcases h with ⟨s, rfl⟩ | ⟨kk, n, rfl⟩
    · simp only [Instr.sameBits]; exact (show (s.data == s.data) = true from beq_self_eq_true s.data)
    · simp [Instr.sameBits]
  rw [if_pos this]; rfl

theorem mapUpdateV_ok {P : Program} {E : Env} (hE : EnvOk P E) {e : Emb} {H H' : AHeap} {w : World} (r : Rep e H w) {t : TypeId} {m m' k k' v v' : Value} (rm : VRel e m m') (rk : VRel e k k') (rv : VRel e v v') (h : mapUpdateV E t m k v H = some H') :
    ∃ w', (Instr.mapUpdate t m' k' v').run P w = .ok () w' ∧ Out e H w e H' w' := by
  unfold mapUpdateV at h
  split at h
  · rename_i i id hi
    have hs := hE.und _ _ hi
    split at h
    · rename_i kt et hd
      rw [hd] at hs
      split at h
      · rename_i ik es clock hik ho
        have hku := hE.und _ _ hik
        cases hp : plainKeyD ik.desc with
        | false => rw [hp] at h; cases h
        | true =>
          rw [hp, cond_true] at h
          cases rm with
          | map hl =>
            rename_i l
            obtain ⟨l2, hl2, hrel⟩ := r.obj id _ ho
            rw [hl] at hl2; cases hl2
            obtain ⟨es', h1, h2, h3⟩ := hrel
            have hb : l.blk < w.heap.size := (Array.getElem?_eq_some_iff.1 h1).1
            have her : ERel e es es'.toList := ⟨by simpa using h2, fun i x x' hx hx' => h3 i x x' hx (by simpa using hx')⟩
            obtain ⟨f1, f2⟩ := findNow_rel hp rk 0 her
            split at h
            · rename_i j u hf
              obtain ⟨u', hu, _, _, y, y', hy, hy', _, hkey⟩ := f2 j u hf
              simp only [Nat.sub_zero] at hy hy'
              rw [hy] at h
              cases h
              have hy'' : es'[j]? = some y' := by simpa using hy'
              have hsh : (∃ s, k' = .string s) ∨ ∃ kk n, k' = .int kk n := findNow_shape hp hu
              refine ⟨World.putObj' w l.blk (.map (es'.modify j fun e => { e with key := k', val := v' }) clock), ?_, ?_⟩
              · have hf2 := run_findKey (P := P) hku hu w
                unfold Instr.mapUpdate
                simp only [Sem.run_bind, run_underlying hs, Result.andThen_ok, run_getMap h1, run_checkKey hku hp, hf2, hy'', Option.map_some, Option.getD_some, hkey, run_keyStays hsh, run_setMap h1]
              · refine Out.turn r ho rfl hl _ (by intro cs; simp) _ putObj'_size (fun b hb => putObj'_other hb) rfl rfl rfl ?_
                refine ⟨_, putObj'_heap hb, by simp [h2], ?_⟩
                intro i x x' hx hx'
                rw [List.getElem?_set] at hx
                rw [Array.getElem?_modify] at hx'
                split at hx
                · rename_i hij; subst hij
                  split at hx
                  · cases hx
                    rw [if_pos rfl, hy''] at hx'
                    cases hx'
                    exact ⟨rk, rv, (h3 j y y' hy hy'').2.2⟩
                  · cases hx
                · rename_i hij
                  rw [if_neg hij] at hx'
                  exact h3 i x x' hx hx'
            · rename_i hf
              cases h
              refine ⟨World.putObj' w l.blk (.map (es'.push { key := k', val := v', born := clock }) (clock + 1)), ?_, ?_⟩
              · have hf2 := run_findKey (P := P) hku (f1 hf) w
                unfold Instr.mapUpdate
                simp only [Sem.run_bind, run_underlying hs, Result.andThen_ok, run_getMap h1, run_checkKey hku hp, hf2, run_setMap h1]
              · refine Out.turn r ho rfl hl _ (by intro cs; simp) _ putObj'_size (fun b hb => putObj'_other hb) rfl rfl rfl ?_
                refine ⟨_, putObj'_heap hb, by simp [h2], ?_⟩
                intro i x x' hx hx'
                by_cases hi2 : i < es.length
                · rw [List.getElem?_append_left hi2] at hx
                  rw [Array.getElem?_push_lt (by omega)] at hx'
                  exact h3 i x x' hx (by rw [Array.getElem?_eq_getElem (by omega)]; exact hx')
                · rw [List.getElem?_append_right (by omega)] at hx
                  have hi3 : i = es.length := by
                    have := (List.getElem?_eq_some_iff.1 hx).1; simp at this; omega
                  subst hi3
                  simp at hx; subst hx
                  rw [h2] at hx'
                  simp at hx'; subst hx'
                  exact ⟨rk, rv, rfl⟩
            · cases h
      · cases h
    · cases h
  · cases h

/-! ### Walks -/
def rangeV (E : Env) (t : TypeId) (x : Value) (H : AHeap) : Option (Value × AHeap) :=
  let made (o : AObj) : Option (Value × AHeap) := some (.pointer (some ⟨H.next, 0, none⟩), ⟨H.t.set H.next (some o), H.next + 1⟩)
  match E.ty t, x with
  | some i, .string s => match i.desc with
    | .string => made (.siter s 0)
    | _ => none
  | some i, .map none => match i.desc with
    | .map _ _ => made (.miter none 0 [] 0)
    | _ => none
  | some i, .map (some id) => match i.desc, H.t.get id with
    | .map _ _, some (.map _ clock) => made (.miter (some id) clock [] clock)
    | _, _ => none
  | _, _ => none

theorem alloc_obj {P : Program} {e : Emb} {H : AHeap} {w : World} (r : Rep e H w) (o : AObj) (ob : Obj) (ho : ∀ (e' : Emb) (w1 : World), e.le e' → w1.heap[w.heap.size]? = some ob → ORel e' o ⟨w.heap.size, 0, 0⟩ w1) :
    ∃ w' e', (newObj ob).run P w = .ok w.heap.size w' ∧ Out e H w e' ⟨H.t.set H.next (some o), H.next + 1⟩ w' ∧ VRel e' (.pointer (some ⟨H.next, 0, none⟩)) (.pointer (some ⟨w.heap.size, 0, none⟩)) := by
  have hle := Emb.le_add (e := e) ⟨w.heap.size, 0, 0⟩ (r.fresh H.next (Nat.le_refl _))
  refine ⟨_, _, rfl, Out.alloc r o ob 0 (ho _ _ hle (by simp)), ?_⟩
  exact .ptr (off := 0) (l := ⟨w.heap.size, 0, 0⟩) (Emb.add_self _ _ _)

theorem rangeV_ok {P : Program} {E : Env} (hE : EnvOk P E) {e : Emb} {H H' : AHeap} {w : World} (r : Rep e H w) {t : TypeId} {x x' v : Value} (rx : VRel e x x') (h : rangeV E t x H = some (v, H')) :
    ∃ v' w' e', (Instr.range t x').run P w = .ok v' w' ∧ Out e H w e' H' w' ∧ VRel e' v v' := by
  unfold rangeV at h
  simp only at h
  split at h
  · rename_i i s hi
    have hs := hE.und _ _ hi
    split at h
    · rename_i hd; rw [hd] at hs
      cases h; cases rx
      obtain ⟨w', e', h1, h2, h3⟩ := alloc_obj (P := P) r (.siter s 0) (.stringIter s 0) (fun e' w1 _ hw => ⟨hw, rfl⟩)
      exact ⟨_, w', e', by simp only [Instr.range, Sem.run_bind, run_underlying hs, Result.andThen_ok, Sem.run_pure, h1], h2, h3⟩
    · cases h
  · rename_i i hi
    have hs := hE.und _ _ hi
    split at h
    · rename_i hd; rw [hd] at hs
      cases h; cases rx
      obtain ⟨w', e', h1, h2, h3⟩ := alloc_obj (P := P) r (.miter none 0 [] 0) (.mapIter none 0 #[] 0) (fun e' w1 _ hw => ⟨none, hw, trivial, rfl⟩)
      exact ⟨_, w', e', by simp only [Instr.range, Sem.run_bind, run_underlying hs, Result.andThen_ok, Sem.run_pure, h1], h2, h3⟩
    · cases h
  · rename_i i id hi
    have hs := hE.und _ _ hi
    split at h
    · rename_i es clock hd ho; rw [hd] at hs
      cases h
      cases rx with
      | map hl =>
        rename_i l
        obtain ⟨l2, hl2, hrel⟩ := r.obj id _ ho
        rw [hl] at hl2; cases hl2
        obtain ⟨es', q1, q2, q3⟩ := hrel
        obtain ⟨w', e', h1, h2, h3⟩ := alloc_obj (P := P) r (.miter (some id) clock [] clock) (.mapIter (some l.blk) clock #[] clock) (fun e' w1 hle hw => ⟨some l.blk, hw, ⟨l, hle _ _ hl, rfl⟩, rfl⟩)
        exact ⟨_, w', e', by simp only [Instr.range, Sem.run_bind, run_underlying hs, Result.andThen_ok, run_getMap q1, Sem.run_pure, h1], h2, h3⟩
    · cases h
  · cases h

def triple (k v : Value) : Value := .tuple #[.bool true, k, v]
theorem triple_rel {e : Emb} {k k' v v' : Value} (hk : VRel e k k') (hv : VRel e v v') : VRel e (triple k v) (triple k' v') := by
  have : LRel e [.bool true, k, v] [.bool true, k', v'] := .cons (.bool true) (.cons hk (.cons hv (.nil e)))
  exact .tuple this.toA.1 this.toA.2
def over : Value := .tuple #[.bool false]
theorem over_rel (e : Emb) : VRel e over over := by
  have : LRel e [.bool false] [.bool false] := .cons (.bool false) (.nil e)
  exact .tuple this.toA.1 this.toA.2

/-- The next step of a walk: all that it may be. -/
def nextV (it : Value) (isString : Bool) (H : AHeap) : Option (List (Value × AHeap)) :=
  match it with
  | .pointer (some ⟨id, 0, none⟩) => match H.t.get id, isString with
    | some (.siter s pos), true =>
      if pos < s.size then
        let d := Utf8.decode s pos
        some [(triple (.int .i64 pos) (.int .i32 d.1), ⟨H.t.set id (some (.siter s (pos + d.2))), H.next⟩)]
      else some [(over, H)]
    | some (.miter none _ _ _), false => some [(over, H)]
    | some (.miter (some m) since seen stepped), false => match H.t.get m with
      | some (.map es clock) =>
        if (seen = [] ∨ es = [] ∨ es.any (fun x => Nat.blt x.born stepped) = true) ∧ es.all (fun x => Nat.blt x.born since) = true then
          match es.filter fun x => !seen.contains x.born with
          | [] => some [(over, H)]
          | left => some (left.map fun x => (triple x.key x.val, ⟨H.t.set id (some (.miter (some m) since (seen ++ [x.born]) clock)), H.next⟩))
        else none
      | _ => none
    | _, _ => none
  | _ => none

def entryV (it : Value) (T : Tr) : Option Value :=
  match it with
  | .pointer (some ⟨id, 0, none⟩) => match T.get id with
    | some (.miter (some m) _ seen stepped) => match seen.getLast?, T.get m with
      | some stamp, some (.map es clock) => if clock = stepped then match es.find? (fun x => x.born == stamp) with
          | some x => some (.tuple #[x.key, x.val])
          | none => none
        else none
      | _, _ => none
    | _ => none
  | _ => none

theorem ERel.find {e : Emb} (stamp : Nat) : ∀ {es es' : List MapEntry}, ERel e es es' → ∀ x, es.find? (fun x => x.born == stamp) = some x → ∃ x', es'.find? (fun x => x.born == stamp) = some x' ∧ VRel e x.key x'.key ∧ VRel e x.val x'.val
  | [], es', r, x, h => by simp at h
  | y :: es, es', r, x, h => by
    obtain ⟨y', b', rfl, h1, h2, h3, hr⟩ := r.uncons
    rw [List.find?_cons] at h ⊢
    cases hb : (y.born == stamp) with
    | true =>
      rw [hb] at h; cases h
      exact ⟨y', by rw [← h3, hb], h1, h2⟩
    | false =>
      rw [hb] at h
      obtain ⟨x', a, b⟩ := ERel.find stamp hr x h
      exact ⟨x', by rw [← h3, hb]; exact a, b⟩

theorem entryV_ok {P : Program} {e : Emb} {H : AHeap} {w : World} (r : Rep e H w) {it it' v : Value} (ri : VRel e it it') (h : entryV it H.t = some v) :
    ∃ v', (Instr.entry it').run P w = .ok v' w ∧ VRel e v v' := by
  unfold entryV at h
  split at h
  · rename_i id
    split at h
    · rename_i m since seen stepped ho
      split at h
      · rename_i stamp es clock hst hm
        split at h
        · rename_i hc
          split at h
          · rename_i x hx; cases h
            cases ri with
            | ptr hl =>
              rename_i l
              obtain ⟨l2, hl2, hrel⟩ := r.obj id _ ho
              rw [hl] at hl2; cases hl2
              obtain ⟨m', h1, h2, h3⟩ := hrel
              cases m' with
              | none => exact h2.elim
              | some b =>
                obtain ⟨lm, hlm, hb⟩ := h2
                subst hb
                obtain ⟨l3, hl3, hrel2⟩ := r.obj m _ hm
                rw [hlm] at hl3; cases hl3
                obtain ⟨es', q1, q2, q3⟩ := hrel2
                have her : ERel e es es'.toList := ⟨by simpa using q2, fun i x x' hx hx' => q3 i x x' hx (by simpa using hx')⟩
                obtain ⟨x', f1, f2, f3⟩ := ERel.find stamp her x hx
                refine ⟨.tuple #[x'.key, x'.val], ?_, ?_⟩
                · have g1 : (getObj l.blk).run P w = .ok (.mapIter (some lm.blk) since seen.toArray stepped) w := by simp [getObj, Sem.run, h1]
                  have g2 : seen.toArray.back? = some stamp := by simpa using hst
                  have g3 : es'.find? (fun x => x.born == stamp) = some x' := by simpa using f1
                  unfold Instr.entry
                  rw [h3]
                  simp only [Nat.add_zero, Sem.run_bind, g1, Result.andThen_ok, g2, run_getMap q1, hc, g3]
                  simp
                · have : LRel e [x.key, x.val] [x'.key, x'.val] := .cons f2 (.cons f3 (.nil e))
                  exact .tuple this.toA.1 this.toA.2
          · cases h
        · cases h
      · cases h
    · cases h
  · cases h

theorem filter_rel {e : Emb} (p : Nat → Bool) : ∀ {es es' : List MapEntry}, ERel e es es' → ERel e (es.filter fun x => p x.born) (es'.filter fun x => p x.born)
  | [], es', r => by
    obtain rfl : es' = [] := by have := r.1; cases es' <;> simp_all
    exact ⟨rfl, fun i x x' hx => by simp at hx⟩
  | y :: es, es', r => by
    obtain ⟨y', b', rfl, h1, h2, h3, hr⟩ := r.uncons
    have ih := filter_rel p hr
    rw [List.filter_cons, List.filter_cons, ← h3]
    split
    · refine ⟨by simp [ih.1], fun i x x' hx hx' => ?_⟩
      cases i with
      | zero => simp at hx hx'; subst hx hx'; exact ⟨h1, h2, h3⟩
      | succ i => exact ih.2 i x x' (by simpa using hx) (by simpa using hx')
    · exact ih

theorem nextV_ok {P : Program} {e : Emb} {H : AHeap} {w : World} (r : Rep e H w) {it it' : Value} {b : Bool} {ty : TypeId} (ri : VRel e it it') {os : List (Value × AHeap)} (h : nextV it b H = some os) :
    ∃ v H' v' w', (v, H') ∈ os ∧ (Instr.next it' b ty).run P w = .ok v' w' ∧ Out e H w e H' w' ∧ VRel e v v' := by
  unfold nextV at h
  split at h
  · rename_i id
    split at h
    · -- a text
      rename_i s pos ho
      cases ri with
      | ptr hl =>
        rename_i l
        obtain ⟨l2, hl2, hrel⟩ := r.obj id _ ho
        rw [hl] at hl2; cases hl2
        obtain ⟨h1, h3⟩ := hrel
        have hb : l.blk < w.heap.size := (Array.getElem?_eq_some_iff.1 h1).1
        have g1 : (getObj l.blk).run P w = .ok (.stringIter s pos) w := by simp [getObj, Sem.run, h1]
        split at h
        · rename_i hp
          simp only at h; cases h
          refine ⟨_, _, triple (.int .i64 pos) (.int .i32 (Utf8.decode s pos).1), World.putObj' w l.blk (.stringIter s (pos + (Utf8.decode s pos).2)), List.mem_singleton.2 rfl, ?_, ?_, triple_rel (.int _ _) (.int _ _)⟩
          · have g2 : (setObj l.blk (.stringIter s (pos + (Utf8.decode s pos).2))).run P w = .ok () (World.putObj' w l.blk (.stringIter s (pos + (Utf8.decode s pos).2))) := by simp [setObj, Sem.run, h1, World.putObj']
            unfold Instr.next
            rw [h3]
            simp only [Nat.add_zero, Sem.run_bind, g1, Result.andThen_ok]
            rw [if_pos hp]
            simp only [Sem.run_bind, g2, Result.andThen_ok, Sem.run_pure, goInt, triple]
          · exact Out.turn r ho rfl hl _ (by intro cs; simp) _ putObj'_size (fun b hb => putObj'_other hb) rfl rfl rfl ⟨putObj'_heap hb, h3⟩
        · rename_i hp
          cases h
          refine ⟨_, _, over, w, List.mem_singleton.2 rfl, ?_, Out.refl r, over_rel e⟩
          unfold Instr.next
          rw [h3]
          simp only [Nat.add_zero, Sem.run_bind, g1, Result.andThen_ok]
          rw [if_neg hp]
          rfl
    · -- no map
      rename_i since seen stepped ho
      cases h
      cases ri with
      | ptr hl =>
        rename_i l
        obtain ⟨l2, hl2, hrel⟩ := r.obj id _ ho
        rw [hl] at hl2; cases hl2
        obtain ⟨m', h1, h2, h3⟩ := hrel
        cases m' with
        | some _ => exact h2.elim
        | none =>
          have g1 : (getObj l.blk).run P w = .ok (.mapIter none since seen.toArray stepped) w := by simp [getObj, Sem.run, h1]
          refine ⟨_, _, over, w, List.mem_singleton.2 rfl, ?_, Out.refl r, over_rel e⟩
          unfold Instr.next
          rw [h3]
          simp only [Nat.add_zero, Sem.run_bind, g1, Result.andThen_ok]
          rfl
    · -- a map
      rename_i m since seen stepped ho
      split at h
      · rename_i es clock hm
        split at h
        · rename_i hc
          obtain ⟨hc1, hc2⟩ := hc
          cases ri with
          | ptr hl =>
            rename_i l
            obtain ⟨l2, hl2, hrel⟩ := r.obj id _ ho
            rw [hl] at hl2; cases hl2
            obtain ⟨m', h1, h2, h3⟩ := hrel
            cases m' with
            | none => exact h2.elim
            | some b =>
              obtain ⟨lm, hlm, hb⟩ := h2
              subst hb
              obtain ⟨l3, hl3, hrel2⟩ := r.obj m _ hm
              rw [hlm] at hl3; cases hl3
              obtain ⟨es', q1, q2, q3⟩ := hrel2
              have her : ERel e es es'.toList := ⟨by simpa using q2, fun i x x' hx hx' => q3 i x x' hx (by simpa using hx')⟩
              have hbl : l.blk < w.heap.size := (Array.getElem?_eq_some_iff.1 h1).1
              have g1 : (getObj l.blk).run P w = .ok (.mapIter (some lm.blk) since seen.toArray stepped) w := by simp [getObj, Sem.run, h1]
              have hseen : ∀ n : Nat, seen.toArray.contains n = seen.contains n := fun n => by simp
              have hunsup : (!seen.toArray.isEmpty && !es'.isEmpty && es'.all fun x => decide (x.born ≥ stepped)) = false := by
                rcases hc1 with h0 | h0 | h0
                · simp [h0]
                · have : es' = #[] := by
                    have := her.1; rw [h0] at this
                    apply Array.eq_empty_of_size_eq_zero; simpa using this.symm
                  simp [this]
                · obtain ⟨x, hx, hlt⟩ := List.any_eq_true.1 h0
                  obtain ⟨i, hi, hxi⟩ := List.getElem_of_mem hx
                  have hi' : i < es'.toList.length := by rw [← her.1]; exact hi
                  obtain ⟨_, _, hbn⟩ := her.2 i x es'.toList[i] (by simp [hxi, hi]) (by simp)
                  have hlt' : x.born < stepped := Nat.le_of_ble_eq_true hlt
                  have : (es'.all fun x => decide (x.born ≥ stepped)) = false := by
                    rw [Array.all_eq_false]
                    exact ⟨i, by simpa using hi', by simp at hbn ⊢; omega⟩
                  simp [this]
              have hall : ∀ x' ∈ es'.toList, x'.born < since := by
                intro x' hx'
                obtain ⟨i, hi, hxi⟩ := List.getElem_of_mem hx'
                have hi' : i < es.length := by rw [her.1]; exact hi
                obtain ⟨_, _, hbn⟩ := her.2 i es[i] x' (by simp [hi']) (by simp [← hxi])
                have := List.all_eq_true.1 hc2 es[i] (List.getElem_mem hi')
                have : es[i].born < since := Nat.le_of_ble_eq_true this
                omega
              have hfr := filter_rel (fun n => !seen.contains n) her
              have hleft : (es'.filter fun x => !seen.toArray.contains x.born) = ((es'.toList.filter fun x => !seen.contains x.born)).toArray := by
                apply Array.ext'
                simp
              have hold : ∀ L : List MapEntry, (∀ x ∈ L, x.born < since) → (L.toArray.filter fun x => decide (x.born < since)) = L.toArray ∧ (L.toArray.filter fun x => decide (x.born ≥ since)) = #[] := by
                intro L hL
                constructor
                · apply Array.ext'
                  simp only [Array.toList_filter, List.filter_eq_self]
                  intro a ha; simp [hL a ha]
                · apply Array.ext'
                  simp only [Array.toList_filter, List.filter_eq_nil_iff]
                  intro a ha; have := hL a ha; simp; omega
              have hLL := hold (es'.toList.filter fun x => !seen.contains x.born) (fun x hx => hall x ((List.mem_filter.1 hx).1))
              generalize hLdef : (es'.toList.filter fun x => !seen.contains x.born) = L' at *
              have hpre : ∀ rest : Nat → Sem Value, True := fun _ => trivial
              have hrun : (Instr.next (.pointer (some ⟨l.blk, l.base + 0, none⟩)) false ty).run P w =
                  ((choose (.mapNext (((if L'.toArray.isEmpty then #[none] else #[]) ++ (L'.toArray ++ #[]).map some : Array (Option MapEntry)).size))).run P w).andThen fun k w1 =>
                    (match ((if L'.toArray.isEmpty then #[none] else #[]) ++ (L'.toArray ++ #[]).map some : Array (Option MapEntry))[k]? with
                    | some (some x) => do
                      setObj l.blk (.mapIter (some lm.blk) since (seen.toArray.push x.born) clock)
                      pure (.tuple #[.bool true, x.key, x.val])
                    | some none => pure (.tuple #[.bool false])
                    | none => stuck "Next: no such candidate" : Sem Value).run P w1 := by
                unfold Instr.next
                rw [h3]
                simp only [Nat.add_zero, Sem.run_bind, g1, Result.andThen_ok, run_getMap q1, hunsup, Bool.false_eq_true, if_false, hleft, hLL.1, hLL.2]
                rfl
              split at h
              · -- nothing is left
                rename_i hnil; cases h
                have hL0 : L' = [] := by have := hfr.1; rw [hnil] at this; exact List.length_eq_zero_iff.1 this.symm
                subst hL0
                refine ⟨_, _, over, w, List.mem_singleton.2 rfl, ?_, Out.refl r, over_rel e⟩
                rw [hrun]
                simp [run_choose, Question.forced, over]
              · -- one of those that are left
                rename_i hne; cases h
                have hL0 : L' ≠ [] := by
                  intro hx; rw [hx] at hfr
                  exact hne (List.length_eq_zero_iff.1 hfr.1)
                have hcand : ((if L'.toArray.isEmpty then #[none] else #[]) ++ (L'.toArray ++ #[]).map some : Array (Option MapEntry)) = (L'.map some).toArray := by
                  have : L'.toArray.isEmpty = false := by cases L' <;> simp_all
                  simp [this]
                rw [hcand] at hrun
                have hpos : 0 < L'.length := List.length_pos_iff.2 hL0
                obtain ⟨k, w1, hk, hw1, hch⟩ : ∃ k w1, k < L'.length ∧ (w1 = w ∨ w1 = w.drew) ∧ (choose (.mapNext (L'.map some).toArray.size)).run P w = .ok k w1 := by
                  by_cases hf : (Question.mapNext (L'.map some).toArray.size).forced = true
                  · exact ⟨0, w, hpos, .inl rfl, by rw [run_choose, if_pos hf]⟩
                  · refine ⟨_, w.drew, ?_, .inr rfl, by rw [run_choose, if_neg hf]; rfl⟩
                    simp only [Question.cut, List.size_toArray, List.length_map]
                    exact Nat.mod_lt _ hpos
                rw [hch] at hrun
                simp only [Result.andThen_ok] at hrun
                have hkx : (L'.map some).toArray[k]? = some (some L'[k]) := by simp [hk]
                rw [hkx] at hrun
                have hk2 : k < (es.filter fun x => !seen.contains x.born).length := by rw [hfr.1]; exact hk
                generalize hxdef : (es.filter fun x => !seen.contains x.born)[k] = x at *
                have hxk : (es.filter fun x => !seen.contains x.born)[k]? = some x := by rw [← hxdef]; simp
                obtain ⟨rk, rv, rb⟩ := hfr.2 k x L'[k] hxk (by simp [hk])
                refine ⟨_, _, triple L'[k].key L'[k].val, World.putObj' w1 l.blk (.mapIter (some lm.blk) since (seen.toArray.push L'[k].born) clock), List.mem_map.2 ⟨x, List.mem_of_getElem? hxk, rfl⟩, ?_, ?_, triple_rel rk rv⟩
                · rw [hrun]
                  have hh : w1.heap = w.heap := by rcases hw1 with rfl | rfl <;> rfl
                  have g2 : (setObj l.blk (.mapIter (some lm.blk) since (seen.toArray.push L'[k].born) clock)).run P w1 = .ok () (World.putObj' w1 l.blk (.mapIter (some lm.blk) since (seen.toArray.push L'[k].born) clock)) := by simp [setObj, Sem.run, hh, h1, World.putObj']
                  simp only [Sem.run_bind, g2, Result.andThen_ok, Sem.run_pure, triple]
                · have o1 := Out.turn r ho rfl hl (.miter (some m) since (seen ++ [x.born]) clock) (by intro cs; simp) (World.putObj' w l.blk (.mapIter (some lm.blk) since (seen.toArray.push L'[k].born) clock)) putObj'_size (fun b hb => putObj'_other hb) rfl rfl rfl
                    ⟨some lm.blk, by rw [putObj'_heap hbl, rb]; simp, ⟨lm, hlm, rfl⟩, h3⟩
                  rcases hw1 with rfl | rfl
                  · exact o1
                  · exact o1.drawn _
        · cases h
      · cases h
    · cases h
  · cases h

end Go.WeftN
