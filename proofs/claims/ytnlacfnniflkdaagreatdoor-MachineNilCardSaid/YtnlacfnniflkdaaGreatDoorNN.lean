/- What an operation does, in one function. -/
import Derived.Test.YtnlacfnniflkdaaGreatDoorNM
namespace Go.WeftN

def ptrConvV (E : Env) (src dst : TypeId) (x : Value) (T : Tr) : Option Value :=
  match E.ty src, E.ty dst with
  | some i, some j => match i.desc, j.desc, x with
    | .pointer _, .unsafePointer, .pointer none => some x
    | .unsafePointer, .pointer _, .pointer none => some x
    | .pointer t, .unsafePointer, .pointer (some ⟨id, off, none⟩) => match E.ty t, T.get id with
      | some k, some (.cells cs _ _ _) => bif Nat.ble 1 k.size && Nat.blt off cs.length then some x else none
      | _, _ => none
    | .unsafePointer, .pointer u, .pointer (some ⟨id, off, none⟩) => match T.get id with
      | some (.cells cs exact _ elem) => match E.ty u, E.ty elem with
        | some _, some k => bif exact && Nat.ble 1 k.size && E.lies elem cs.length off u then some x else none
        | _, _ => none
      | _ => none
    | _, _, _ => none
  | _, _ => none

theorem ptrConvV_ok {P : Program} {E : Env} (hE : EnvOk P E) {e : Emb} {H : AHeap} {w : World} (r : Rep e H w) {src dst : TypeId} {x x' v : Value} (rx : VRel e x x') (h : ptrConvV E src dst x H.t = some v) :
    ∃ v', (convert src dst x').run P w = .ok v' w ∧ VRel e v v' := by
  unfold ptrConvV at h
  split at h
  · rename_i i j hi hj
    have hs := hE.und _ _ hi
    have hd := hE.und _ _ hj
    split at h
    · rename_i t h1 h2
      rw [h1] at hs; rw [h2] at hd
      cases h; cases rx
      exact ⟨.pointer none, by simp [convert, run_underlying hs, run_underlying hd, Conv.unsafePointer], .nilPtr⟩
    · rename_i t h1 h2
      rw [h1] at hs; rw [h2] at hd
      cases h; cases rx
      exact ⟨.pointer none, by simp [convert, run_underlying hs, run_underlying hd, Conv.unsafePointer], .nilPtr⟩
    · rename_i t id off h1 h2
      rw [h1] at hs; rw [h2] at hd
      split at h
      · rename_i k cs b1 b2 b3 hk ho
        cases hb : (Nat.ble 1 k.size && Nat.blt off cs.length) with
        | false => rw [hb] at h; cases h
        | true =>
          rw [hb, cond_true] at h; cases h
          simp only [Bool.and_eq_true] at hb
          have hk1 := Nat.le_of_ble_eq_true hb.1
          have hoff : off < cs.length := Nat.le_of_ble_eq_true hb.2
          cases rx with
          | ptr hl =>
            rename_i l
            obtain ⟨l2, hl2, hrel⟩ := r.obj id _ ho
            rw [hl] at hl2; cases hl2
            obtain ⟨c, fr, hc, hcsz, hcle, hex, hcv, hfr⟩ := hrel
            refine ⟨_, ?_, .ptr hl⟩
            have hsh : w.shape? l.blk = some (b3, c.size) := by simp [World.shape?, hc]
            have h5 : ¬ (c.size ≤ l.base + off) := by omega
            simp [convert, run_underlying hs, run_underlying hd, Conv.unsafePointer, Conv.seenAt, viewAt, hsh, cellsIn, run_size hE hk, h5]
            omega
      · cases h
    · rename_i u id off h1 h2
      rw [h1] at hs; rw [h2] at hd
      split at h
      · rename_i cs b1 b2 elem ho
        split at h
        · rename_i ku k hu hk
          cases hb : (b1 && Nat.ble 1 k.size && E.lies elem cs.length off u) with
          | false => rw [hb] at h; cases h
          | true =>
            rw [hb, cond_true] at h; cases h
            simp only [Bool.and_eq_true] at hb
            obtain ⟨⟨hex1, hk1⟩, hlies⟩ := hb
            have hk1 := Nat.le_of_ble_eq_true hk1
            cases rx with
            | ptr hl =>
              rename_i l
              obtain ⟨l2, hl2, hrel⟩ := r.obj id _ ho
              rw [hl] at hl2; cases hl2
              obtain ⟨c, fr, hc, hcsz, hcle, hex, hcv, hfr⟩ := hrel
              obtain ⟨hex2, hex3⟩ := hex hex1
              refine ⟨_, ?_, .ptr hl⟩
              have hsz : c.size = cs.length := by omega
              have hsh : w.shape? l.blk = some (elem, cs.length) := by simp [World.shape?, hc, hsz]
              obtain ⟨ji, hji, hjs, _⟩ := hE.info _ _ hk
              have hco : P.cellsOf elem = k.size := by simp [Program.cellsOf, hji, hjs]
              have hl2 := hE.lies _ _ _ _ hlies k hk hk1
              simp [convert, run_underlying hs, run_underlying hd, Conv.unsafePointer, Conv.seenAt, viewAt, hsh, run_size hE hu, variablesAt, hco, hex3, hl2]
        · cases h
      · cases h
    · cases h
  · cases h

/-- '==' and '!=' of two places of one object. -/
def ptrEqV (E : Env) (op : BinOp) (t : TypeId) (a b : Value) : Option Value :=
  match a, b, E.ty t with
  | .pointer (some ⟨i, o, none⟩), .pointer (some ⟨j, u, none⟩), some ti => match ti.desc with
    | .pointer el => match E.ty el with
      | some k => bif Nat.beq i j && Nat.ble 1 k.size then match op with
          | .eql => some (.bool (Nat.beq o u))
          | .neq => some (.bool (!(Nat.beq o u)))
          | _ => none
        else none
      | none => none
    | _ => none
  | _, _, _ => none

theorem ptrEqV_ok {P : Program} {E : Env} (hE : EnvOk P E) {op : BinOp} {t : TypeId} {x y : Operand} {e : Emb} {a b a' b' v : Value} (ha : VRel e a a') (hb : VRel e b b') (h : ptrEqV E op t a b = some v) (w : World) :
    ((do eqGuard op t x y a' b'; binOp op t a' b') : Sem Value).run P w = .ok v w ∧ VRel e v v := by
  unfold ptrEqV at h
  split at h
  · rename_i i o j u ti hti
    have hs := hE.und _ _ hti
    split at h
    · rename_i el hd
      rw [hd] at hs
      split at h
      · rename_i k hk
        cases hbb : (Nat.beq i j && Nat.ble 1 k.size) with
        | false => rw [hbb] at h; cases h
        | true =>
          rw [hbb, cond_true] at h
          simp only [Bool.and_eq_true] at hbb
          obtain rfl := Nat.eq_of_beq_eq_true hbb.1
          have hk1 := Nat.le_of_ble_eq_true hbb.2
          cases ha with
          | ptr hl =>
            rename_i l
            cases hb with
            | ptr hl2 =>
              rename_i l2
              rw [hl] at hl2; cases hl2
              have hg : (eqGuard op t x y (.pointer (some ⟨l.blk, l.base + o, none⟩)) (.pointer (some ⟨l.blk, l.base + u, none⟩))).run P w = .ok () w := by cases op <;> simp [eqGuard]
              have he : (Op.equal t (.pointer (some ⟨l.blk, l.base + o, none⟩)) (.pointer (some ⟨l.blk, l.base + u, none⟩))).run P w = .ok (Nat.beq o u) w := by
                show (Op.equalIn (9999 + 1) t _ _).run P w = _
                generalize 9999 = n
                have hne : ¬ (k.size = 0) := by omega
                simp [Op.equalIn, run_underlying hs, run_size hE hk, hne, sameAddr]
                rw [Bool.eq_iff_iff]
                simp
              split at h
              · cases h
                refine ⟨?_, .bool _⟩
                simp only [Sem.run_bind, hg, Result.andThen_ok, binOp, he, Sem.run_pure]
              · cases h
                refine ⟨?_, .bool _⟩
                simp only [Sem.run_bind, hg, Result.andThen_ok, binOp, he, Sem.run_pure]
              · cases h
      · cases h
    · cases h
  · cases h

/-! ### '==' of structs of numbers, texts and bools -/
def basicEq : TypeDesc → Value → Value → Option Bool
  | .int _, .int k a, .int j b => if k = j then some (a == b) else none
  | .bool, .bool a, .bool b => some (a == b)
  | .string, .string a, .string b => some (eqB a.data.toList b.data.toList)
  | _, _, _ => none

def eqCells (xs ys : List Value) : List (Nat × TypeDesc) → Option Bool
  | [] => some true
  | (o, d) :: os => match xs[o]?, ys[o]? with
    | some a, some b => match basicEq d a b with
      | some true => eqCells xs ys os
      | some false => some false
      | none => none
    | _, _ => none

def structEqV (E : Env) (op : BinOp) (t : TypeId) (a b : Value) : Option Value :=
  match a, b, E.eqs t with
  | .agg xs, .agg ys, some l => match eqCells xs.toList ys.toList l with
    | some r => match op with
      | .eql => some (.bool r)
      | .neq => some (.bool (!r))
      | _ => none
    | none => none
  | _, _, _ => none

theorem basicEq_ok {P : Program} {e : Emb} {t : TypeId} {d : TypeDesc} (hu : P.underlying t = some d) {a b a' b' : Value} {r : Bool} (ha : VRel e a a') (hb : VRel e b b') (h : basicEq d a b = some r) (n : Nat) (w : World) :
    (Op.equalIn (n + 1) t a' b').run P w = .ok r w := by
  unfold basicEq at h
  split at h
  · split at h
    · rename_i hkj; subst hkj; cases h; cases ha; cases hb; simp [Op.equalIn, run_underlying hu]
    · cases h
  · cases h; cases ha; cases hb; simp [Op.equalIn, run_underlying hu]
  · cases h; cases ha; cases hb; rw [run_equalIn_string w n t _ _ hu, eqB_eq, ByteArray.toList_eq, ByteArray.toList_eq]
  · cases h

theorem run_part_basic {P : Program} {t : TypeId} {d : TypeDesc} (hu : P.underlying t = some d) (hd : isBasicD d = true) {cs : Array Value} {o : Nat} {v : Value} (h : cs[o]? = some v) (w : World) : (part t cs o).run P w = .ok v w := by
  unfold part isAgg
  simp only [Sem.run_bind, run_underlying hu, Result.andThen_ok]
  cases d <;> first
    | (simp [isBasicD] at hd; done)
    | simp [h]

theorem eqCells_ok {P : Program} {e : Emb} {xs ys xs' ys' : Array Value} (hx : ARel e xs xs') (hy : ARel e ys ys') (n : Nat) (w : World) : ∀ (fs : List Field) (l : List (Nat × TypeDesc)) {r : Bool}, eqFieldsOk P fs l → eqCells xs.toList ys.toList l = some r →
    (Op.eqFields (n + 1) xs' ys' fs).run P w = .ok r w
  | [], [], r, _, h => by simp only [eqCells] at h; cases h; simp [Op.eqFields]
  | f :: fs, (o, d) :: l, r, ⟨h1, h2, h3, h4, h5⟩, h => by
    simp only [eqCells] at h
    split at h
    · rename_i a b ha hb
      obtain ⟨a', ha', hra⟩ := hx.get (i := o) (v := a) (by simpa using ha)
      obtain ⟨b', hb', hrb⟩ := hy.get (i := o) (v := b) (by simpa using hb)
      subst h2
      simp only [Op.eqFields]
      rw [if_pos h1]
      simp only [Sem.run_bind, run_part_basic h3 h4 ha' w, run_part_basic h3 h4 hb' w, Result.andThen_ok]
      split at h
      · rename_i hr
        simp only [basicEq_ok h3 hra hrb hr n w, Result.andThen_ok, Bool.not_true, Bool.false_eq_true, if_false]
        exact eqCells_ok hx hy n w fs l h5 h
      · rename_i hr
        cases h
        simp [basicEq_ok h3 hra hrb hr n w]
      · cases h
    · cases h
  | [], _ :: _, r, h, _ => h.elim
  | _ :: _, [], r, h, _ => h.elim

theorem structEqV_ok {P : Program} {E : Env} (hE : EnvOk P E) {op : BinOp} {t : TypeId} {x y : Operand} {e : Emb} {a b a' b' v : Value} (ha : VRel e a a') (hb : VRel e b b') (h : structEqV E op t a b = some v) (w : World) :
    ((do eqGuard op t x y a' b'; binOp op t a' b') : Sem Value).run P w = .ok v w ∧ VRel e v v := by
  unfold structEqV at h
  split at h
  · rename_i xs ys l hl
    obtain ⟨h1, h2, fs, h3, h4⟩ := hE.eqs t l hl
    split at h
    · rename_i r hr
      cases ha with
      | agg hxs hxi =>
        rename_i xs'
        cases hb with
        | agg hys hyi =>
          rename_i ys'
          have hf : P.fieldsOf t = fs := by simp [Program.fieldsOf, h3]
          have heq : (Op.equalIn 10000 t (.agg xs') (.agg ys')).run P w = .ok r w := by
            rw [run_equalIn_struct w 9999 t xs' ys' (by rw [hf]; exact h3) h1, hf]
            exact eqCells_ok ⟨hxs, hxi⟩ ⟨hys, hyi⟩ 9998 w fs.toList l h4 hr
          simp only [Sem.run_bind, run_eqGuard_agg w op t x y xs' ys' h2, Result.andThen_ok]
          split at h
          · cases h
            exact ⟨by rw [run_eql_struct, heq]; rfl, .bool _⟩
          · cases h
            exact ⟨by rw [run_neq_struct, heq]; rfl, .bool _⟩
          · cases h
    · cases h
  · cases h

/-- The first n of a source. -/
def truncV (n : Nat) : Value → Value
  | .string s => .string (strCut s 0 n)
  | .slice a _ k => .slice a n k
  | v => v

theorem truncV_rel {e : Emb} {x x' : Value} (r : VRel e x x') {n : Nat} (hn : n ≤ srcN x) : ∃ y', VRel e (truncV n x) y' ∧ ∀ sz, Builtin.firstCells sz n y' = Builtin.firstCells sz n x' := by
  cases r with
  | string s =>
    refine ⟨_, .string _, fun sz => ?_⟩
    have hl : n ≤ s.data.toList.length := hn
    have : (strCut s 0 n).extract 0 n = s.extract 0 n := by
      rw [strCut_eq, strCut_eq]
      unfold strCut
      simp [List.take_take]
    simp only [Builtin.firstCells, this]
  | nilSlice =>
    obtain rfl : n = 0 := by simp [srcN] at hn; exact hn
    exact ⟨_, .nilSlice, fun _ => rfl⟩
  | slice hl hE hlen hav =>
    simp only [srcN] at hn
    exact ⟨_, .slice hl hE (Nat.le_trans hn hlen) hav, fun _ => rfl⟩
  | empty a c =>
    obtain rfl : n = 0 := by simp [srcN] at hn; exact hn
    exact ⟨_, .empty a c, fun _ => rfl⟩
  | poison v => exact ⟨_, .poison _, fun _ => rfl⟩
  | bool b => exact ⟨_, .bool b, fun _ => rfl⟩
  | int k m => exact ⟨_, .int k m, fun _ => rfl⟩
  | nilPtr => exact ⟨_, .nilPtr, fun _ => rfl⟩
  | nilMap => exact ⟨_, .nilMap, fun _ => rfl⟩
  | nilFunc => exact ⟨_, .nilFunc, fun _ => rfl⟩
  | nilIface => exact ⟨_, .nilIface, fun _ => rfl⟩
  | ptr h => exact ⟨_, .ptr h, fun _ => rfl⟩
  | map h => exact ⟨_, .map h, fun _ => rfl⟩
  | func hf ha hai hc hci => exact ⟨_, .func hf ha hai hc hci, fun _ => rfl⟩
  | iface t h => exact ⟨_, .iface t h, fun _ => rfl⟩
  | agg ha hai => exact ⟨_, .agg ha hai, fun _ => rfl⟩
  | tuple ha hai => exact ⟨_, .tuple ha hai, fun _ => rfl⟩

theorem srcN_trunc {n : Nat} {T : Tr} {sz : Nat} {x : Value} {vs : List Value} (hn : n ≤ srcN x) (h : srcV T sz (truncV n x) = some vs) : srcN (truncV n x) = n := by
  cases x <;> simp only [truncV, srcN] at * <;> first
    | rfl
    | (simp only [strCut, List.length_take, List.drop_zero]; omega)
    | (simp [srcV] at h)

def copyV (E : Env) (ts : Array TypeId) (d s : Value) (H : AHeap) : Option (Value × AHeap) :=
  match ts.toList with
  | t :: _ => match E.ty t with
    | some i => match i.desc with
      | .slice el => match E.ty el with
        | some j => match d with
          | .slice (some ⟨id, off, none⟩) len sz =>
            let n := min (srcN s) len
            match srcV H.t j.size s, srcV H.t j.size (truncV n s), H.t.get id with
            | some _, some vs, some (.cells cs exact fz elem) =>
              bif Nat.beq sz j.size && Nat.ble (off + vs.length) cs.length && Nat.ble fz off && vs.all oneK then
                some (.int .i64 n, ⟨H.t.set id (some (.cells (putAll cs vs off) exact fz elem)), H.next⟩)
              else none
            | _, _, _ => none
          | _ => none
        | none => none
      | _ => none
    | none => none
  | _ => none

theorem copyV_ok {P : Program} {E : Env} (hE : EnvOk P E) {e : Emb} {H H' : AHeap} {w : World} (r : Rep e H w) {ts : Array TypeId} {ty : TypeId} {d d' s s' v : Value} (rd : VRel e d d') (rs : VRel e s s') (h : copyV E ts d s H = some (v, H')) :
    ∃ w', (Builtin.copy_ ts ty #[d', s']).run P w = .ok v w' ∧ Out e H w e H' w' ∧ VRel e v v := by
  unfold copyV at h
  split at h
  · rename_i t rest hts
    have h0 : ts[0]? = some t := by rw [← Array.getElem?_toList, hts]; rfl
    split at h
    · rename_i i hi
      have hs := hE.und _ _ hi
      split at h
      · rename_i el hd
        rw [hd] at hs
        split at h
        · rename_i j hj
          split at h
          · rename_i id off len sz
            simp only at h
            split at h
            · rename_i vs0 vs cs exact_ fz elem hvs0 hvs ho
              cases hb : (Nat.beq sz j.size && Nat.ble (off + vs.length) cs.length && Nat.ble fz off && vs.all oneK) with
              | false => rw [hb] at h; cases h
              | true =>
                rw [hb, cond_true] at h; cases h
                simp only [Bool.and_eq_true] at hb
                obtain ⟨⟨⟨_, hle⟩, hfz⟩, hone⟩ := hb
                have hmin : min (srcN s) len ≤ srcN s := Nat.min_le_left _ _
                obtain ⟨_, _, _, hf0⟩ := srcV_ok (P := P) r rs hvs0
                obtain ⟨y', hy, hfy⟩ := truncV_rel rs hmin
                obtain ⟨vs', hr, hn, hf⟩ := srcV_ok (P := P) r hy hvs
                have hsn := srcN_trunc hmin hvs
                have hf1 := (hf w rfl).2
                rw [hsn, hfy] at hf1
                cases rd with
                | slice hl hE0 hlen hav =>
                  rename_i cap l
                  obtain ⟨w', hst, hout⟩ := write_ok (P := P) r ho hl hr (oneCells hr hone) (Nat.le_of_ble_eq_true hle) (Nat.le_of_ble_eq_true hfz)
                  refine ⟨w', ?_, hout, .int _ _⟩
                  have hmin2 : Nat.min (srcN s) len = min (srcN s) len := rfl
                  unfold Builtin.copy_
                  simp only [h0, List.getElem?_toArray, List.getElem?_cons_zero, List.getElem?_cons_succ, Sem.run_bind, run_underlying hs, Result.andThen_ok, (hf0 w rfl).1, run_size hE hj, hmin2, hf1, hst, Sem.run_pure, goInt]
            · cases h
          · cases h
        · cases h
      · cases h
    · cases h
  · cases h

/-! ### The whole -/
inductive Eff where
  | pure (v : Value)
  | read (f : Tr → Option Value)
  | alloc (m : Mk)
  | turn (f : AHeap → Option (List (Value × AHeap)))
  | call (fn : Value) (args : List Value)
  | defer (fn : Value) (args : List Value)
  | recover
  | panic (v : Value)

def one1 (o : Option (Value × AHeap)) : Option (List (Value × AHeap)) := o.map fun x => [x]

def sliceArgs (ρ : Rho) : Option Operand → Option Value := Option.map ρ

def effCall (E : Env) (ρ : Rho) (c : Call) : Option Eff :=
  let args := c.args.toList.map ρ
  match c.callee with
  | .value f => some (.call (ρ f) args)
  | .invoke _ _ => none
  | .builtin b => match builtinV E b c.argTypes args with
    | some v => some (.pure v)
    | none => match b, args with
      | .append, [s, x] => match appendMakeV E c.argTypes s x with
        | some m => some (.alloc m)
        | none => some (.turn fun H => one1 (appendV E c.argTypes s x H))
      | .copy, [d, s] => some (.turn fun H => one1 (copyV E c.argTypes d s H))
      | .unsafeString, [p, n] => some (.turn fun H => one1 (unsafeStrV E c.argTypes p n H))
      | .recover, [] => some .recover
      | _, _ => none

def effOf (E : Env) (ρ : Rho) (o : Oper) : Option Eff :=
  match o.op with
  | .move x => some (.pure (ρ x))
  | .assign x => some (.pure (ρ x))
  | .pick c a b => match ρ c with
    | .bool t => some (.pure (bif t then ρ a else ρ b))
    | _ => none
  | .alloc t => (allocV E t).map .alloc
  | .box t x => (boxV t (ρ x)).map .alloc
  | .build t ps => (buildV E t (ps.toList.map fun p => (p.1, ρ p.2))).map .pure
  | .buildSlice t n ps => (buildSliceV E t n (ps.toList.map fun p => (p.1, ρ p.2))).map .alloc
  | .load t a => some (.read (loadV E t (ρ a)))
  | .store t a x => some (.turn fun H => one1 ((storeV E t (ρ a) (ρ x) H).map fun H' => (undef, H')))
  | .nilCheck x => (nilCheckV (ρ x)).map .pure
  | .binOp op t x y _ => match binV E op t x y (ρ x) (ρ y) with
    | some v => some (.pure v)
    | none => match ptrEqV E op t (ρ x) (ρ y) with
      | some v => some (.pure v)
      | none => (structEqV E op t (ρ x) (ρ y)).map .pure
  | .unOp op _ x => (unV op (ρ x)).map .pure
  | .convert s d x => match convV E s d (ρ x) with
    | some v => some (.pure v)
    | none => some (.read fun T => match bytesStrV E s d (ρ x) T with
      | some v => some v
      | none => ptrConvV E s d (ρ x) T)
  | .makeInterface t x => (ifaceV E t (ρ x)).map .pure
  | .makeFunc fn first captured => match fn with
    | .func f => some (.pure (.func (.func f) (first.map ρ) (captured.map ρ)))
    | _ => none
  | .makeMap _ r => match r with
    | none => (makeMapV none).map .alloc
    | some _ => none
  | .makeSlice t l c => (makeSliceV E t (ρ l) (ρ c)).map .alloc
  | .slice t x lo hi mx => match mx with
    | some _ => none
    | none => match sliceV E t (ρ x) (lo.map ρ) (hi.map ρ) with
      | some v => some (.pure v)
      | none => some (.read (arraySliceV E t (ρ x) (lo.map ρ) (hi.map ρ)))
  | .fieldAddr s x f => (fieldAddrV E s (ρ x) f).map .pure
  | .field t x f => (fieldV E t (ρ x) f).map .pure
  | .indexAddr t x i => (indexAddrV E t (ρ x) (ρ i)).map .pure
  | .index t x i => (indexV E t (ρ x) (ρ i)).map .pure
  | .lookup t x k ok => some (.read (lookupV E t (ρ x) (ρ k) ok))
  | .mapUpdate t m k x => some (.turn fun H => one1 ((mapUpdateV E t (ρ m) (ρ k) (ρ x) H).map fun H' => (undef, H')))
  | .range t x => some (.turn fun H => one1 (rangeV E t (ρ x) H))
  | .next it b => some (.turn (nextV (ρ it) b))
  | .entry it => some (.read (entryV (ρ it)))
  | .typeAssert x _ t ok => (assertV E (ρ x) t ok).map .pure
  | .extract x i => (extractV (ρ x) i).map .pure
  | .call c => effCall E ρ c
  | .defer c => match c.callee with
    | .value f => some (.defer (ρ f) (c.args.toList.map ρ))
    | _ => none
  | .panic x => match ρ x with
    | .iface t v => some (.panic (.iface t v))
    | _ => none
  | _ => none

def EffOk (P : Program) (e : Emb) (s : Sem Next) : Eff → Prop
  | .pure v => ∀ w, ∃ v', s.run P w = .ok (.value v') w ∧ VRel e v v'
  | .read f => ∀ H w v, Rep e H w → f H.t = some v → ∃ v', s.run P w = .ok (.value v') w ∧ VRel e v v'
  | .alloc m => ∀ (w : World) (id : Nat), e id = none → ∃ v' ob av n, s.run P w = .ok (.value v') { w with heap := w.heap.push ob, drawn := n } ∧
      ∀ w1 : World, w1.heap[w.heap.size]? = some ob → ORel (e.add id ⟨w.heap.size, 0, av⟩) m.obj ⟨w.heap.size, 0, av⟩ w1 ∧ VRel (e.add id ⟨w.heap.size, 0, av⟩) (m.val id) v'
  | .turn f => ∀ H w os, Rep e H w → f H = some os → ∃ v H' nx w' e', (v, H') ∈ os ∧ s.run P w = .ok nx w' ∧ Out e H w e' H' w' ∧ ((nx = .skip ∧ v = undef) ∨ ∃ v', nx = .value v' ∧ VRel e' v v')
  | .call f args => ∃ f' args', VRel e f f' ∧ LRel e args args' ∧ ∀ w, s.run P w = ((Deferred.ofValue f' args'.toArray >>= fun d => invoke d.target d.args) : Sem Next).run P w
  | .defer f args => ∃ f' args', VRel e f f' ∧ LRel e args args' ∧ ∀ w, s.run P w = ((Deferred.ofValue f' args'.toArray >>= fun d => pure (.defer d)) : Sem Next).run P w
  | .recover => ∀ w, s.run P w = .ok .recover w
  | .panic v => ∃ v', VRel e v v' ∧ ∀ w, s.run P w = .halt (.panic v') w

end Go.WeftN
