/- Places of fields and elements; elements; assertions; lengths. -/
import Derived.Test.YtnlacfnniflkdaaGreatDoorNE
namespace Go.WeftN

def fieldAddrV (E : Env) (s : TypeId) (x : Value) (f : Nat) : Option Value :=
  match x, E.ty s with
  | .pointer (some ⟨id, off, none⟩), some i => match i.desc with
    | .struct fields => match fields.toList[f]? with
      | some fd => match E.ty fd.type with
        | some j => if j.size = 0 then none else some (.pointer (some ⟨id, off + fd.offset, none⟩))
        | none => none
      | none => none
    | _ => none
  | _, _ => none

theorem fieldAddrV_ok {P : Program} {E : Env} (hE : EnvOk P E) {e : Emb} {s : TypeId} {x x' v : Value} {f : Nat} (r : VRel e x x') (h : fieldAddrV E s x f = some v) (w : World) : ∃ v', (Instr.fieldAt s x' f).run P w = .ok v' w ∧ VRel e v v' := by
  unfold fieldAddrV at h
  split at h
  · rename_i id off i hi
    have hs := hE.und _ _ hi
    split at h
    · rename_i fields hd; rw [hd] at hs
      split at h
      · rename_i fd hf
        split at h
        · rename_i j hj
          split at h
          · cases h
          · rename_i hz
            cases h; cases r with
            | ptr hl =>
              rename_i l
              refine ⟨.pointer (some ⟨l.blk, l.base + off + fd.offset, none⟩), ?_, ?_⟩
              · have hf' : fields[f]? = some fd := by simpa using hf
                unfold Instr.fieldAt
                simp only [Sem.run_bind, run_underlying hs, Result.andThen_ok, hf']
                simp [Instr.sureAddr, fieldPlace, run_size hE hj, hz, addr_add]
              · rw [Nat.add_assoc]; exact .ptr hl
        · cases h
      · cases h
    · cases h
  · cases h

def fieldV (E : Env) (t : TypeId) (x : Value) (f : Nat) : Option Value :=
  match x, E.ty t with
  | .agg cs, some i => match i.desc with
    | .struct fields => match fields.toList[f]? with
      | some fd => apart E fd.type cs fd.offset
      | none => none
    | _ => none
  | _, _ => none

theorem fieldV_ok {P : Program} {E : Env} (hE : EnvOk P E) {e : Emb} {t : TypeId} {x x' v : Value} {f : Nat} (r : VRel e x x') (h : fieldV E t x f = some v) (w : World) : ∃ v', (Instr.field t x' f).run P w = .ok v' w ∧ VRel e v v' := by
  unfold fieldV at h
  split at h
  · rename_i cs i hi
    have hs := hE.und _ _ hi
    split at h
    · rename_i fields hd; rw [hd] at hs
      split at h
      · rename_i fd hf
        cases r with
        | agg ha hai =>
          rename_i cs'
          obtain ⟨v', hr, hv⟩ := apart_ok hE (e := e) (cs := cs) (cs' := cs') ⟨ha, hai⟩ h w
          refine ⟨v', ?_, hv⟩
          have hf' : fields[f]? = some fd := by simpa using hf
          unfold Instr.field
          simp only [Sem.run_bind, run_underlying hs, Result.andThen_ok, hf', asAgg, Sem.run_pure, hr]
      · cases h
    · cases h
  · cases h

def indexAddrV (E : Env) (t : TypeId) (x ix : Value) : Option Value :=
  match ix, E.ty t with
  | .int _ n, some i => match i.desc, x with
    | .array len el, .pointer (some ⟨id, off, none⟩) => match E.ty el with
      | some j => if 0 ≤ n ∧ n < (len : Int) then some (.pointer (some ⟨id, off + n.toNat * j.size, none⟩)) else none
      | none => none
    | .slice el, .slice (some ⟨id, off, none⟩) len _ => match E.ty el with
      | some j => if 0 ≤ n ∧ n < (len : Int) then some (.pointer (some ⟨id, off + n.toNat * j.size, none⟩)) else none
      | none => none
    | _, _ => none
  | _, _ => none

theorem indexAddrV_ok {P : Program} {E : Env} (hE : EnvOk P E) {e : Emb} {t : TypeId} {x x' ix ix' v : Value} (r : VRel e x x') (ri : VRel e ix ix') (h : indexAddrV E t x ix = some v) (w : World) : ∃ v', (Instr.indexAt t x' ix').run P w = .ok v' w ∧ VRel e v v' := by
  unfold indexAddrV at h
  split at h
  · rename_i k n i hi
    cases ri
    have hs := hE.und _ _ hi
    split at h
    · rename_i len el id off hd
      rw [hd] at hs
      split at h
      · rename_i j hj
        split at h
        · rename_i hb; cases h
          cases r with
          | ptr hl =>
            rename_i l
            refine ⟨.pointer (some ⟨l.blk, l.base + off + n.toNat * j.size, none⟩), ?_, by rw [Nat.add_assoc]; exact .ptr hl⟩
            unfold Instr.indexAt
            simp only [Sem.run_bind, asIntOf, Sem.run_pure, run_underlying hs, Result.andThen_ok, Instr.sureAddr]
            rw [if_pos hb]
            simp only [Sem.run_bind, run_size hE hj, Result.andThen_ok, addr_add]
            rfl
        · cases h
      · cases h
    · rename_i el id off len sz hd
      rw [hd] at hs
      split at h
      · rename_i j hj
        split at h
        · rename_i hb; cases h
          cases r with
          | slice hl hE0 hlen hav =>
            rename_i cap l
            refine ⟨.pointer (some ⟨l.blk, l.base + off + n.toNat * j.size, none⟩), ?_, by rw [Nat.add_assoc]; exact .ptr hl⟩
            unfold Instr.indexAt
            simp only [Sem.run_bind, asIntOf, Sem.run_pure, run_underlying hs, Result.andThen_ok]
            rw [if_pos hb]
            simp only [Sem.run_bind, run_size hE hj, Result.andThen_ok, addr_add]
            rfl
        · cases h
      · cases h
    · cases h
  · cases h

def indexV (E : Env) (t : TypeId) (x ix : Value) : Option Value :=
  match ix, E.ty t with
  | .int _ n, some i => match i.desc, x with
    | .string, .string s => if 0 ≤ n then match strAt s n.toNat with
        | some b => some (.int .u8 b.toNat)
        | none => none
      else none
    | .array len el, .agg cs => match E.ty el with
      | some j => if 0 ≤ n ∧ n < (len : Int) then apart E el cs (n.toNat * j.size) else none
      | none => none
    | _, _ => none
  | _, _ => none

theorem indexV_ok {P : Program} {E : Env} (hE : EnvOk P E) {e : Emb} {t : TypeId} {x x' ix ix' v : Value} (r : VRel e x x') (ri : VRel e ix ix') (h : indexV E t x ix = some v) (w : World) : ∃ v', (Instr.index t x' ix').run P w = .ok v' w ∧ VRel e v v' := by
  unfold indexV at h
  split at h
  · rename_i k n i hi
    cases ri
    have hs := hE.und _ _ hi
    split at h
    · rename_i s hd
      rw [hd] at hs
      split at h
      · rename_i hn
        split at h
        · rename_i b hb; cases h; cases r
          refine ⟨.int .u8 b.toNat, ?_, .int _ _⟩
          unfold Instr.index
          simp only [Sem.run_bind, asIntOf, Sem.run_pure, run_underlying hs, Result.andThen_ok]
          rw [if_pos hn, strAt_eq, hb]
          rfl
        · cases h
      · cases h
    · rename_i len el cs hd
      rw [hd] at hs
      split at h
      · rename_i j hj
        split at h
        · rename_i hb
          cases r with
          | agg ha hai =>
            rename_i cs'
            obtain ⟨v', hr, hv⟩ := apart_ok hE (e := e) (cs := cs) (cs' := cs') ⟨ha, hai⟩ h w
            refine ⟨v', ?_, hv⟩
            unfold Instr.index
            simp only [Sem.run_bind, asIntOf, Sem.run_pure, run_underlying hs, Result.andThen_ok]
            rw [if_pos hb]
            simp only [Sem.run_bind, run_size hE hj, Result.andThen_ok, hr]
        · cases h
      · cases h
    · cases h
  · cases h

def pair (v : Value) (b : Bool) : Value := .tuple #[v, .bool b]
theorem pair_rel {e : Emb} {v v' : Value} (h : VRel e v v') (b : Bool) : VRel e (pair v b) (pair v' b) := by
  have : LRel e [v, .bool b] [v', .bool b] := .cons h (.cons (.bool b) (.nil e))
  have h2 := this.toA
  exact .tuple h2.1 h2.2

def assertV (E : Env) (x : Value) (t : TypeId) (ok : Bool) : Option Value :=
  match E.ty t with
  | some i => match i.desc, x with
    | .interface _, _ => none
    | _, .iface u v => if u = t then some (if ok then pair v true else v) else if ok then some (pair i.zero false) else none
    | _, .nilIface => if ok then some (pair i.zero false) else none
    | _, _ => none
  | none => none

theorem assertV_ok {P : Program} {E : Env} (hE : EnvOk P E) {e : Emb} {xt t : TypeId} {ok : Bool} {x x' v : Value} (r : VRel e x x') (h : assertV E x t ok = some v) (w : World) : ∃ v', (Instr.typeAssert x' xt t ok).run P w = .ok v' w ∧ VRel e v v' := by
  unfold assertV at h
  split at h
  · rename_i i hi
    have hs := hE.und _ _ hi
    split at h
    · cases h
    · rename_i u y hni
      cases r with
      | iface _ hv =>
        rename_i y'
        split at h
        · rename_i hu; subst hu; cases h
          refine ⟨if ok then pair y' true else y', ?_, by cases ok <;> simp [hv, pair_rel hv]⟩
          unfold Instr.typeAssert
          simp only [Sem.run_bind, run_underlying hs, Result.andThen_ok]
          cases hd : i.desc <;> simp_all <;> cases ok <;> simp [pair]
        · rename_i hu
          split at h
          · rename_i ho; cases h
            refine ⟨pair i.zero false, ?_, pair_rel (hE.zero t i hi e) false⟩
            unfold Instr.typeAssert
            simp only [Sem.run_bind, run_underlying hs, Result.andThen_ok]
            cases hd : i.desc <;> simp_all [run_zero hE hi, pair]
          · cases h
    · rename_i hni
      cases r
      split at h
      · rename_i ho; cases h
        refine ⟨pair i.zero false, ?_, pair_rel (hE.zero t i hi e) false⟩
        unfold Instr.typeAssert
        simp only [Sem.run_bind, run_underlying hs, Result.andThen_ok]
        cases hd : i.desc <;> simp_all [run_zero hE hi, pair]
      · cases h
    · cases h
  · cases h

def extractV (x : Value) (i : Nat) : Option Value :=
  match x with
  | .tuple vs => vs.toList[i]?
  | _ => none

theorem extractV_ok {P : Program} {e : Emb} {x x' v : Value} {i : Nat} (r : VRel e x x') (h : extractV x i = some v) (w : World) : ∃ v', (Instr.extract x' i).run P w = .ok v' w ∧ VRel e v v' := by
  unfold extractV at h
  split at h
  · cases r with
    | tuple ha hai =>
      rename_i vs vs'
      obtain ⟨v', hv', hr⟩ := ARel.get (e := e) (a := vs) (b := vs') ⟨ha, hai⟩ (i := i) (by simpa using h)
      exact ⟨v', by simp [Instr.extract, hv'], hr⟩
  · cases h

/-- len, cap, min, max and unsafe.SliceData, where no memory is asked. -/
def builtinV (E : Env) (b : Builtin) (ts : Array TypeId) (args : List Value) : Option Value :=
  match b, ts.toList, args with
  | .len, t :: _, [x] => match E.ty t with
    | some i => match i.desc, x with
      | .string, .string s => some (.int .i64 s.data.toList.length)
      | .slice _, .slice _ n _ => some (.int .i64 n)
      | .array n _, _ => some (.int .i64 n)
      | _, _ => none
    | none => none
  | .cap, t :: _, [.slice none 0 0] => match E.ty t with
    | some i => match i.desc with
      | .slice _ => some (.int .i64 0)
      | _ => none
    | none => none
  | .min, _, [.int k x, .int _ y] => some (.int k (if y < x then y else x))
  | .max, _, [.int k x, .int _ y] => some (.int k (if y > x then y else x))
  | .unsafeSliceData, _, [.slice none 0 0] => some (.pointer none)
  | .unsafeSliceData, _, [.slice (some ⟨id, off, none⟩) (_ + 1) _] => some (.pointer (some ⟨id, off, none⟩))
  | _, _, _ => none

theorem LRel.one {e : Emb} {v : Value} {b : List Value} (r : LRel e [v] b) : ∃ v', b = [v'] ∧ VRel e v v' := by
  obtain ⟨v', b', rfl, h, h2⟩ := r.uncons
  rw [h2.nil_inv]; exact ⟨v', rfl, h⟩
theorem LRel.two {e : Emb} {u v : Value} {b : List Value} (r : LRel e [u, v] b) : ∃ u' v', b = [u', v'] ∧ VRel e u u' ∧ VRel e v v' := by
  obtain ⟨u', b', rfl, h, h2⟩ := r.uncons
  obtain ⟨v', rfl, h3⟩ := h2.one
  exact ⟨u', v', rfl, h, h3⟩

theorem builtinV_ok {P : Program} {E : Env} (hE : EnvOk P E) {e : Emb} {b : Builtin} {ts : Array TypeId} {ty : TypeId} {cs : Array Bool} {args : List Value} {args' : Array Value} {v : Value}
    (r : LRel e args args'.toList) (h : builtinV E b ts args = some v) (w : World) : ∃ v', (builtin b ts ty cs args').run P w = .ok (.value v') w ∧ VRel e v v' := by
  obtain ⟨as⟩ := args'
  obtain ⟨ts⟩ := ts
  simp only at r
  unfold builtinV at h
  split at h
  · rename_i t rest x hts
    simp only at hts; subst hts
    obtain ⟨x', rfl, hx⟩ := r.one
    split at h
    · rename_i i hi
      have hs := hE.und _ _ hi
      split at h
      · rename_i s hd; cases h; cases hx; rw [hd] at hs
        exact ⟨_, by simp [builtin, Builtin.len_, run_underlying hs, goInt], .int _ _⟩
      · rename_i n _ hd; cases h; rw [hd] at hs
        cases hx <;> exact ⟨_, by simp [builtin, Builtin.len_, run_underlying hs, goInt], .int _ _⟩
      · rename_i n _ hd; cases h; rw [hd] at hs
        exact ⟨_, by simp [builtin, Builtin.len_, run_underlying hs, goInt], .int _ _⟩
      · cases h
    · cases h
  · rename_i t rest hts
    simp only at hts; subst hts
    obtain ⟨x', rfl, hx⟩ := r.one
    cases hx
    split at h
    · rename_i i hi
      have hs := hE.und _ _ hi
      split at h
      · rename_i _ hd; cases h; rw [hd] at hs
        exact ⟨_, by simp [builtin, Builtin.cap_, run_underlying hs, goInt], .int _ _⟩
      · cases h
    · cases h
  · obtain ⟨u', v', rfl, hu, hv⟩ := r.two
    cases hu; cases hv; cases h
    exact ⟨_, by simp [builtin, Builtin.min_, Builtin.min2], .int _ _⟩
  · obtain ⟨u', v', rfl, hu, hv⟩ := r.two
    cases hu; cases hv; cases h
    exact ⟨_, by simp [builtin, Builtin.max_, Builtin.max2], .int _ _⟩
  · obtain ⟨x', rfl, hx⟩ := r.one
    cases hx; cases h
    exact ⟨.pointer none, rfl, .nilPtr⟩
  · obtain ⟨x', rfl, hx⟩ := r.one
    cases h
    cases hx with
    | slice hl hE0 hlen hav =>
      rename_i id off m sz cap l
      refine ⟨.pointer (some ⟨l.blk, l.base + off, none⟩), ?_, .ptr hl⟩
      obtain ⟨c, rfl⟩ : ∃ c, cap = c + 1 := ⟨cap - 1, by omega⟩
      rfl
  · cases h

end Go.WeftN
