/- Maps, walks, copies, and texts made of bytes. -/
import Derived.Test.YtnlacfnniflkdaaGreatDoorNJ
import Derived.Lib.UnsafeStr
namespace Go.WeftN

theorem liesAt_row {P : Program} {e : TypeId} (hc : P.cellsOf e = 1) (count off n : Nat) (hn : off + n ≤ count) : liesAt P P.depth e count off e n = true := by
  have hd : P.depth = (2 * (P.types.size + Made.depth) + 1) + 1 := rfl
  rw [hd]
  simp only [liesAt, Bool.or_eq_true]
  left
  rw [hd]
  simp [rowAt, hc, sameLayout]
  omega

/-- The bytes that values are. -/
def bytesV : List Value → Option (List UInt8)
  | [] => some []
  | .int .u8 n :: vs => match bytesV vs with
    | some bs => if 0 ≤ n ∧ n < 256 then some (UInt8.ofNat n.toNat :: bs) else none
    | none => none
  | _ :: _ => none

theorem bytesV_ok {e : Emb} : ∀ {vs vs' : List Value} {bs : List UInt8}, LRel e vs vs' → bytesV vs = some bs → vs' = bs.map (fun b => .int .u8 b.toNat)
  | [], vs', bs, r, h => by simp only [bytesV] at h; cases h; rw [r.nil_inv]; rfl
  | v :: vs, vs', bs, r, h => by
    obtain ⟨v', b', rfl, hv, hr⟩ := r.uncons
    unfold bytesV at h
    split at h
    · cases ‹(v :: vs) = []›
    · rename_i n us heq
      cases heq
      split at h
      · rename_i bs2 hb
        split at h
        · rename_i hn
          cases h; cases hv
          rw [bytesV_ok hr hb]
          simp only [List.map_cons]
          congr 2
          have : (UInt8.ofNat n.toNat).toNat = n.toNat := by
            rw [UInt8.toNat_ofNat']; omega
          rw [this]; omega
        · cases h
      · cases h
    · cases h

/-- unsafe.String over bytes: a text; the bytes are frozen. -/
def unsafeStrV (E : Env) (ts : Array TypeId) (p n : Value) (H : AHeap) : Option (Value × AHeap) :=
  match p, n, ts.toList with
  | .pointer none, .int .i64 0, [_, _] => some (.string .empty, H)
  | .pointer (some ⟨id, off, none⟩), .int .i64 m, [pt, _] =>
    bif decide (m = 0) then some (.string .empty, H)
    else match E.ty pt with
      | some i => match i.desc with
        | .pointer el => match E.ty el, H.t.get id with
          | some j, some (.cells cs exact fz elem) =>
            bif Nat.beq j.size 1 && Nat.beq elem el && decide (0 < m) && decide (m < 2 ^ 40) && Nat.ble (off + m.toNat) cs.length then
              match bytesV ((cs.drop off).take m.toNat) with
              | some bs => some (.string ⟨bs.toArray⟩, ⟨H.t.set id (some (.cells cs exact (max fz (off + m.toNat)) elem)), H.next⟩)
              | none => none
            else none
          | _, _ => none
        | _ => none
      | none => none
  | _, _, _ => none

theorem freeze_heap {w : World} {b o n : Nat} {c : Array Value} {elem : TypeId} {fr : Nat × Nat} (h : w.heap[b]? = some (.cells c elem fr)) (hn : n ≠ 0) :
    w.freeze ⟨b, o, none⟩ n = World.putCells w b c elem (if fr.1 == fr.2 then (o, o + n) else (min fr.1 o, max fr.2 (o + n))) := by
  unfold World.freeze World.putCells
  rw [if_neg hn]
  have hb : b < w.heap.size := (Array.getElem?_eq_some_iff.1 h).1
  have he : w.heap[b] = .cells c elem fr := (Array.getElem?_eq_some_iff.1 h).2
  congr 1
  apply Array.ext
  · simp
  · intro i h1 h2
    have h3 : i < w.heap.size := by simpa using h1
    rw [Array.getElem_modify, Array.getElem_setIfInBounds h3]
    split
    · rename_i hi; subst hi; simp only [he]
    · rfl

theorem unsafeStrV_ok {P : Program} {E : Env} (hE : EnvOk P E) {e : Emb} {H H' : AHeap} {w : World} (r : Rep e H w) {ts : Array TypeId} {ty : TypeId} {p p' n n' v : Value} (rp : VRel e p p') (rn : VRel e n n') (h : unsafeStrV E ts p n H = some (v, H')) :
    ∃ w', (Builtin.unsafeString_ ts ty #[p', n']).run P w = .ok v w' ∧ Out e H w e H' w' ∧ VRel e v v := by
  obtain ⟨ts⟩ := ts
  unfold unsafeStrV at h
  split at h
  · rename_i a b hts
    simp only at hts; subst hts
    cases h; cases rp; cases rn
    exact ⟨w, Go.Lib.run_unsafeString_none w a b ty none, Out.refl r, .string _⟩
  · rename_i id off m pt it hts
    simp only at hts; subst hts
    cases rn
    cases rp with
    | ptr hl =>
      rename_i l
      cases hm : decide (m = 0) with
      | true =>
        rw [hm, cond_true] at h; cases h
        obtain rfl := of_decide_eq_true hm
        exact ⟨w, Go.Lib.run_unsafeString_none w pt it ty _, Out.refl r, .string _⟩
      | false =>
        rw [hm, cond_false] at h
        split at h
        · rename_i i hi
          have hs := hE.und _ _ hi
          split at h
          · rename_i el hd
            rw [hd] at hs
            split at h
            · rename_i j cs exact_ fz elem hj ho
              cases hb : (Nat.beq j.size 1 && Nat.beq elem el && decide (0 < m) && decide (m < 2 ^ 40) && Nat.ble (off + m.toNat) cs.length) with
              | false => rw [hb] at h; cases h
              | true =>
                rw [hb, cond_true] at h
                simp only [Bool.and_eq_true, decide_eq_true_eq] at hb
                obtain ⟨⟨⟨⟨hj1, hel⟩, hm0⟩, hm40⟩, hle⟩ := hb
                obtain rfl := Nat.eq_of_beq_eq_true hel
                have hj1' := Nat.eq_of_beq_eq_true hj1
                have hle' := Nat.le_of_ble_eq_true hle
                split at h
                · rename_i bs hbs; cases h
                  obtain ⟨l2, hl2, hrel⟩ := r.obj id _ ho
                  rw [hl] at hl2; cases hl2
                  obtain ⟨c, fr, hc, hcsz, hcle, hex, hcv, hfr⟩ := hrel
                  have hread : readV H.t id off m.toNat = some ((cs.drop off).take m.toNat) := by
                    unfold readV
                    rw [ho]
                    simp only [cellsOf]
                    rw [hle, cond_true]
                  obtain ⟨vs', hr, hn, hcell⟩ := readV_ok r hl hread
                  have hvs := bytesV_ok hr hbs
                  have hbl : bs.length = m.toNat := by rw [hvs] at hn; simpa using hn
                  obtain ⟨ji, hji, hjs, _⟩ := hE.info _ _ hj
                  have hcells : P.cellsOf elem = 1 := by simp [Program.cellsOf, hji, hjs, hj1']
                  have hmm : m = (bs.length : Int) := by omega
                  have hbne : bs.length ≠ 0 := by omega
                  have hcc : ∀ j x, bs[j]? = some x → w.cell? ((⟨l.blk, l.base + off, none⟩ : Addr).add j) = some (.int .u8 x.toNat) := by
                    intro j x hx
                    refine hcell j _ ?_
                    rw [hvs]; simp [hx]
                  have hlb := Go.Lib.run_loadBytes (P := P) w bs ⟨l.blk, l.base + off, none⟩ .empty hcc
                  have hsh : w.shape? l.blk = some (elem, c.size) := by simp [World.shape?, hc]
                  have hlies := liesAt_row (P := P) hcells (c.size / P.cellsOf elem) (l.base + off) bs.length (by rw [hcells, Nat.div_one]; omega)
                  have hblt : l.blk < w.heap.size := (Array.getElem?_eq_some_iff.1 hc).1
                  have hfz := freeze_heap (o := l.base + off) hc hbne
                  refine ⟨w.freeze ⟨l.blk, l.base + off, none⟩ bs.length, ?_, ?_, .string _⟩
                  · have hdef : Builtin.unsafeString_ ⟨[pt, it]⟩ ty #[.pointer (some ⟨l.blk, l.base + off, none⟩), .int .i64 m] =
                        (do
                          let n ← asInt (.int .i64 m)
                          if n < 0 then runtimePanic (.error "unsafe.String: len out of range")
                          if n > IntKind.i64.max then unsupported (.unsafePointer "String: a length above the largest int")
                          if n = 0 then pure (.string .empty)
                          else if ← variablesAt ⟨l.blk, l.base + off, none⟩ (← elemOf pt) n.toNat then do
                            let s ← loadBytes ⟨l.blk, l.base + off, none⟩ .empty n.toNat
                            freeze ⟨l.blk, l.base + off, none⟩ n.toNat
                            pure (.string s)
                          else unsupported (.unsafePointer "String: not so many bytes at ptr")) := rfl
                    rw [hdef]
                    have hmax : IntKind.i64.max = 9223372036854775807 := rfl
                    have hneg : ¬ m < 0 := by omega
                    have hbig : ¬ (9223372036854775807 : Int) < m := by omega
                    have hmz : ¬ m = 0 := by omega
                    simp [asInt, asIntOf, hmax, hbig, hneg, hmz, variablesAt, hsh, elemOf, run_underlying hs, ← hbl, hlies, hlb]
                  · rw [hfz]
                    refine Out.turn r ho rfl hl _ (by intro cs; simp) _ putCells_size (fun b hb => putCells_other hb) rfl rfl rfl ?_
                    refine ⟨c, _, putCells_heap hblt, hcsz, hcle, hex, hcv, ?_⟩
                    split
                    · right; simp only; omega
                    · rename_i hne
                      right
                      rcases hfr with h | h
                      · simp [h] at hne
                      · simp only; omega
                · cases h
            · cases h
          · cases h
        · cases h
  · cases h

/-- A text of bytes that a slice has. -/
def bytesStrV (E : Env) (src dst : TypeId) (x : Value) (T : Tr) : Option Value :=
  match E.ty src, E.ty dst with
  | some i, some j => match i.desc, j.desc with
    | .slice el, .string => match E.ty el with
      | some k => match k.desc with
        | .int .u8 => match x with
          | .slice none 0 0 => some (.string .empty)
          | .slice (some ⟨id, off, none⟩) n 1 => match readV T id off n with
            | some vs => match bytesV vs with
              | some bs => some (.string ⟨bs.toArray⟩)
              | none => none
            | none => none
          | _ => none
        | _ => none
      | none => none
    | _, _ => none
  | _, _ => none

/-- An array variable as a slice, whole or in part. -/
def arraySliceV (E : Env) (t : TypeId) (x : Value) (lo hi : Option Value) (T : Tr) : Option Value :=
  match x, E.ty t with
  | .pointer (some ⟨id, off, none⟩), some i => match i.desc with
    | .array n el => match E.ty el, boundsV n n lo hi, T.get id with
      | some j, some (l, h), some (.cells cs exact _ _) =>
        bif exact && Nat.ble 1 j.size && Nat.beq (off + n * j.size) cs.length && Nat.blt l n then
          some (.slice (some ⟨id, off + l * j.size, none⟩) (h - l) j.size)
        else none
      | _, _, _ => none
    | _ => none
  | _, _ => none

theorem arraySliceV_ok {P : Program} {E : Env} (hE : EnvOk P E) {e : Emb} {H : AHeap} {w : World} (r : Rep e H w) {t : TypeId} {x x' v : Value} {lo lo' hi hi' : Option Value} (rx : VRel e x x') (rl : ORelV e lo lo') (rh : ORelV e hi hi') (h : arraySliceV E t x lo hi H.t = some v) :
    ∃ v', (Instr.sliceAt t x' lo' hi' none).run P w = .ok v' w ∧ VRel e v v' := by
  unfold arraySliceV at h
  split at h
  · rename_i id off i hi2
    have hs := hE.und _ _ hi2
    split at h
    · rename_i n el hd
      rw [hd] at hs
      split at h
      · rename_i j l hh cs exact_ fz elem hj hb ho
        cases hb2 : (exact_ && Nat.ble 1 j.size && Nat.beq (off + n * j.size) cs.length && Nat.blt l n) with
        | false => rw [hb2] at h; cases h
        | true =>
          rw [hb2, cond_true] at h; cases h
          simp only [Bool.and_eq_true] at hb2
          obtain ⟨⟨⟨hex1, hj1⟩, hlen⟩, hln⟩ := hb2
          have hlen' := Nat.eq_of_beq_eq_true hlen
          have hln' : l < n := Nat.le_of_ble_eq_true hln
          have hj1' := Nat.le_of_ble_eq_true hj1
          cases rx with
          | ptr hl =>
            rename_i lc
            obtain ⟨l2, hl2, hrel⟩ := r.obj id _ ho
            rw [hl] at hl2; cases hl2
            obtain ⟨c, fr, hc, hcsz, hcle, hex, hcv, hfr⟩ := hrel
            have hav := (hex hex1).1
            obtain ⟨hb', h1, h2⟩ := run_sliceBounds (P := P) (isSlice := false) (cap := n) rl rh hb (Nat.le_refl _) (Nat.le_refl _) w
            refine ⟨.slice (some ⟨lc.blk, lc.base + off + l * j.size, none⟩) (hh - l) (n - l), ?_, ?_⟩
            · unfold Instr.sliceAt
              simp only [Sem.run_bind, run_underlying hs, Result.andThen_ok, Instr.sureAddr, Sem.run_pure, hb', run_size hE hj]
              rw [if_neg (by omega), addr_add]
            · rw [Nat.add_assoc]
              refine .slice hl (by omega) (by omega) ?_
              have : n * j.size = (n - l) * j.size + l * j.size := by rw [← Nat.add_mul]; congr 1; omega
              omega
      · cases h
    · cases h
  · cases h

end Go.WeftN
