/- Operations that ask no memory: each one's value, and that the model's has it. -/
import Derived.Test.YtnlacfnniflkdaaGreatDoorND
import Derived.Laws.Tables
namespace Go.WeftN

def placesV (E : Env) (fs : List Field) : Option (List (Nat × Nat)) := fs.mapM fun f => (E.ty f.type).map fun i => (f.offset, i.size)

theorem placesV_ok {P : Program} {E : Env} (h : EnvOk P E) : ∀ (fs : List Field) (ps : List (Nat × Nat)), placesV E fs = some ps → fs.mapM (fun f => (P.info? f.type).map fun i => (f.offset, i.size)) = some ps
  | [], ps, hp => by simpa [placesV] using hp
  | f :: fs, ps, hp => by
    unfold placesV at hp
    simp only [List.mapM_cons, Option.bind_eq_bind, Option.pure_def] at hp ⊢
    cases hi : E.ty f.type with
    | none => simp [hi] at hp
    | some i =>
      cases hr : fs.mapM (fun f => (E.ty f.type).map fun i => (f.offset, i.size)) with
      | none => simp [hi, hr] at hp
      | some rest =>
        simp [hi, hr] at hp
        obtain ⟨j, hj, hs, _⟩ := h.info _ _ hi
        rw [placesV_ok h fs rest hr]
        simp [hj, hs, hp]

def buildV (E : Env) (t : TypeId) (parts : List (Nat × Value)) : Option Value :=
  match E.ty t with
  | none => none
  | some i => match i.desc with
    | .struct fields => match placesV E fields.toList with
      | none => none
      | some pl => (fillV (pl.toArray[·]?) i.zero.cells.toList parts).map fun cs => .agg cs.toArray
    | .array _ el => match E.ty el with
      | none => none
      | some j => (fillV (fun k => some (k * j.size, j.size)) i.zero.cells.toList parts).map fun cs => .agg cs.toArray
    | _ => none

theorem buildV_ok {P : Program} {E : Env} (h : EnvOk P E) {e : Emb} {t : TypeId} {ps : List (Nat × Value)} {ps' : Array (Nat × Value)} (r : PRel e ps ps'.toList) {v : Value} (hv : buildV E t ps = some v) (w : World) :
    ∃ v', (Instr.build t ps').run P w = .ok v' w ∧ VRel e v v' := by
  unfold buildV at hv
  split at hv
  · cases hv
  · rename_i i hi
    obtain ⟨j, hj, _, _, hz⟩ := h.info t i hi
    have hzr : LRel e i.zero.cells.toList i.zero.cells.toList := ((h.zero t i hi e).cells (h.zknown t i hi)).toL
    split at hv
    · rename_i fields hd
      split at hv
      · cases hv
      · rename_i pl hpl
        obtain ⟨out, ho, rfl⟩ := Option.map_eq_some_iff.1 hv
        obtain ⟨out', ho', hr⟩ := fillV_ok _ ps ps'.toList _ i.zero.cells out r hzr ho
        refine ⟨.agg out', ?_, ?_⟩
        · refine run_build w t ps' out' ?_
          unfold Program.built
          simp only [hj, h.und t i hi, hd, hz, placesV_ok h _ _ hpl]
          exact ho'
        · have := hr.toA; exact .agg this.1 this.2
    · rename_i n el hd
      split at hv
      · cases hv
      · rename_i k hk
        obtain ⟨out, ho, rfl⟩ := Option.map_eq_some_iff.1 hv
        obtain ⟨out', ho', hr⟩ := fillV_ok _ ps ps'.toList _ i.zero.cells out r hzr ho
        obtain ⟨jk, hjk, hs, _⟩ := h.info el k hk
        refine ⟨.agg out', ?_, ?_⟩
        · refine run_build w t ps' out' ?_
          unfold Program.built
          simp only [hj, h.und t i hi, hd, hz, hjk, hs]
          exact ho'
        · have := hr.toA; exact .agg this.1 this.2
    · cases hv


def constOk : Value → Bool
  | .slice _ _ _ => false
  | _ => true

def nilCheckV (v : Value) : Option Value :=
  match v with
  | .pointer (some ⟨_, _, none⟩) => some v
  | .func (.func _) _ _ => some v
  | _ => none

def unV (op : UnOp) (x : Value) : Option Value :=
  match op, x with
  | .neg, .int k n => some (.int k (k.wrap (0 - n)))
  | .xor, .int k n => some (.int k (k.wrap (BitVec.ofInt k.bits (if k.signed then -1 else k.max) ^^^ BitVec.ofInt k.bits n).toNat))
  | .not, .bool b => some (.bool !b)
  | _, _ => none

theorem unV_ok {P : Program} {e : Emb} {op : UnOp} {x x' v : Value} (r : VRel e x x') (h : unV op x = some v) (w : World) : (Op.unary op x').run P w = .ok v w ∧ VRel e v v := by
  unfold unV at h
  split at h <;> cases h <;> cases r
  · exact ⟨by simp [Op.unary, Op.intArith], .int _ _⟩
  · exact ⟨by simp [Op.unary, Op.intBits], .int _ _⟩
  · exact ⟨by simp [Op.unary], .bool _⟩

def convV (E : Env) (src dst : TypeId) (x : Value) : Option Value :=
  match E.ty src, E.ty dst with
  | some i, some j => match i.desc, j.desc, x with
    | .int _, .int k, .int _ n => some (.int k (k.wrap n))
    | .string, .string, .string s => some (.string s)
    | _, _, _ => none
  | _, _ => none

theorem convV_ok {P : Program} {E : Env} (hE : EnvOk P E) {e : Emb} {src dst : TypeId} {x x' v : Value} (r : VRel e x x') (h : convV E src dst x = some v) (w : World) : (convert src dst x').run P w = .ok v w ∧ VRel e v v := by
  unfold convV at h
  split at h
  · rename_i i j hi hj
    have hs := hE.und _ _ hi
    have hd := hE.und _ _ hj
    split at h <;> cases h <;> cases r
    · rename_i k k' n h1 h2
      rw [h1] at hs; rw [h2] at hd
      exact ⟨by simp [convert, run_underlying hs, run_underlying hd, Conv.intToInt], .int _ _⟩
    · rename_i s h1 h2
      rw [h1] at hs; rw [h2] at hd
      exact ⟨by simp [convert, run_underlying hs, run_underlying hd], .string _⟩
  · cases h

def ifaceV (E : Env) (t : TypeId) (x : Value) : Option Value :=
  match E.ty t with
  | some i => match i.desc with
    | .interface _ => none
    | _ => some (.iface t x)
  | none => none

theorem ifaceV_ok {P : Program} {E : Env} (hE : EnvOk P E) {e : Emb} {t : TypeId} {x x' v : Value} (r : VRel e x x') (h : ifaceV E t x = some v) (w : World) : ∃ v', (Instr.makeInterface t x').run P w = .ok v' w ∧ VRel e v v' := by
  unfold ifaceV at h
  split at h
  · rename_i i hi
    have hs := hE.und _ _ hi
    split at h
    · cases h
    · rename_i hn
      cases h
      refine ⟨.iface t x', ?_, .iface t r⟩
      unfold Instr.makeInterface
      simp only [Sem.run_bind, run_underlying hs, Result.andThen_ok]
      rfl
  · cases h

/-- A part of a slice or a text, by its bounds; no further than its length. -/
def sliceV (E : Env) (t : TypeId) (x : Value) (lo hi : Option Value) : Option Value :=
  match x with
  | .string s => match E.ty t with
    | some i => match i.desc with
      | .string => match boundsV s.data.toList.length s.data.toList.length lo hi with
        | some (l, h) => some (.string (strCut s l h))
        | none => none
      | _ => none
    | none => none
  | .slice none 0 0 => match E.ty t with
    | some i => match i.desc with
      | .slice el => match E.ty el with
        | some _ => match boundsV 0 0 lo hi with
          | some _ => some (.slice none 0 0)
          | none => none
        | none => none
      | _ => none
    | none => none
  | .slice (some ⟨id, off, none⟩) len sz => match E.ty t with
    | some i => match i.desc with
      | .slice el => match E.ty el with
        | some j => match boundsV len len lo hi with
          | some (l, h) => if sz = j.size ∧ 0 < sz then (if l = 0 then some (.slice (some ⟨id, off, none⟩) h sz) else if l < len then some (.slice (some ⟨id, off + l * sz, none⟩) (h - l) sz) else some (.slice (some emptyMark) 0 0)) else none
          | none => none
        | none => none
      | _ => none
    | none => none
  | _ => none

theorem addr_add (b o n : Nat) : (⟨b, o, none⟩ : Addr).add n = ⟨b, o + n, none⟩ := by
  unfold Addr.add
  split
  · rename_i h; subst h; rfl
  · rfl

theorem sliceV_ok {P : Program} {E : Env} (hE : EnvOk P E) {e : Emb} {t : TypeId} {x x' v : Value} {lo lo' hi hi' : Option Value} (r : VRel e x x') (rl : ORelV e lo lo') (rh : ORelV e hi hi') (h : sliceV E t x lo hi = some v) (w : World) :
    ∃ v', (Instr.sliceAt t x' lo' hi' none).run P w = .ok v' w ∧ VRel e v v' := by
  unfold sliceV at h
  split at h
  · rename_i s
    split at h
    · rename_i i hi2
      have hs := hE.und _ _ hi2
      split at h
      · rename_i hd; rw [hd] at hs
        split at h
        · rename_i l hh hb
          cases h; cases r
          have hb' := (run_sliceBounds (P := P) (isSlice := false) (cap := s.data.toList.length) rl rh hb (Nat.le_refl _) (Nat.le_refl _) w).1
          refine ⟨.string (strCut s l hh), ?_, .string _⟩
          have hsz : s.size = s.data.toList.length := rfl
          unfold Instr.sliceAt Instr.slice
          simp only [Sem.run_bind, run_underlying hs, Result.andThen_ok, Option.isSome_none, Bool.false_eq_true, if_false, hsz]
          simp only [Result.andThen_ok, hb', strCut_eq]
          rfl
        · cases h
      · cases h
    · cases h
  · split at h
    · rename_i i hi2
      have hs := hE.und _ _ hi2
      split at h
      · rename_i el hd; rw [hd] at hs
        split at h
        · rename_i j hj
          split at h
          · rename_i lh hb
            obtain ⟨l, hh⟩ := lh
            cases h; cases r
            obtain ⟨hb', h1, h2⟩ := run_sliceBounds (P := P) (isSlice := true) (cap := 0) rl rh hb (Nat.le_refl _) (Nat.le_refl _) w
            obtain rfl : hh = 0 := by omega
            obtain rfl : l = 0 := by omega
            refine ⟨.slice none 0 0, ?_, .nilSlice⟩
            unfold Instr.sliceAt Instr.slice
            simp only [Sem.run_bind, run_underlying hs, Result.andThen_ok, hb', run_size hE hj]
            rfl
          · cases h
        · cases h
      · cases h
    · cases h
  · rename_i id off len sz
    split at h
    · rename_i i hi2
      have hs := hE.und _ _ hi2
      split at h
      · rename_i el hd; rw [hd] at hs
        split at h
        · rename_i j hj
          split at h
          · rename_i l hh hb
            split at h
            · rename_i hsz
              obtain ⟨rfl, hpos⟩ := hsz
              cases r with
              | slice hi3 hE0 hlen hav =>
                rename_i cap loc
                obtain ⟨hb', h1, h2⟩ := run_sliceBounds (P := P) (isSlice := true) (cap := cap) rl rh hb hlen (Nat.le_refl _) w
                have hrun : (Instr.sliceAt t (.slice (some ⟨loc.blk, loc.base + off, none⟩) len cap) lo' hi' none).run P w =
                    .ok (.slice (if cap = l then (some ⟨loc.blk, loc.base + off, none⟩) else (some ⟨loc.blk, loc.base + off + l * j.size, none⟩)) (hh - l) (cap - l)) w := by
                  unfold Instr.sliceAt Instr.slice
                  simp only [Sem.run_bind, run_underlying hs, Result.andThen_ok, hb', run_size hE hj]
                  simp [addr_add]
                refine ⟨_, hrun, ?_⟩
                split at h
                · rename_i hl0; subst hl0; cases h
                  simp only [Nat.zero_mul, Nat.add_zero, ite_self, Nat.sub_zero]
                  exact .slice hi3 hE0 (by omega) hav
                · split at h
                  · rename_i hl1; cases h
                    rw [if_neg (by omega)]
                    have : loc.base + off + l * j.size = loc.base + (off + l * j.size) := by omega
                    rw [this]
                    refine .slice hi3 hE0 (by omega) ?_
                    have : cap * j.size = (cap - l) * j.size + l * j.size := by rw [← Nat.add_mul]; congr 1; omega
                    omega
                  · rename_i hl0 hl1; cases h
                    obtain rfl : hh = l := by omega
                    simp only [Nat.sub_self]
                    split <;> exact .empty _ _
            · cases h
          · cases h
        · cases h
      · cases h
    · cases h
  · cases h

end Go.WeftN
