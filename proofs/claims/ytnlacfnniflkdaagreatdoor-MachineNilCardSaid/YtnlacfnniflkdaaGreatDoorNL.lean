/- Maps and walks over them; copies; bytes as a text. -/
import Derived.Test.YtnlacfnniflkdaaGreatDoorNK
namespace Go.WeftN

theorem push_all : ∀ (bs : List UInt8) (acc : ByteArray), bs.foldl (fun b a => b.push a) acc = ⟨acc.data ++ bs.toArray⟩
  | [], acc => by simp
  | b :: bs, acc => by
    rw [List.foldl_cons, push_all bs]
    apply ByteArray.ext
    simp [ByteArray.push]

theorem bytesStrV_ok {P : Program} {E : Env} (hE : EnvOk P E) {e : Emb} {H : AHeap} {w : World} (r : Rep e H w) {src dst : TypeId} {x x' v : Value} (rx : VRel e x x') (h : bytesStrV E src dst x H.t = some v) :
    (convert src dst x').run P w = .ok v w ∧ VRel e v v := by
  unfold bytesStrV at h
  split at h
  · rename_i i j hi hj
    have hs := hE.und _ _ hi
    have hd := hE.und _ _ hj
    split at h
    · rename_i el h1 h2
      rw [h1] at hs; rw [h2] at hd
      split at h
      · rename_i k hk
        have hu := hE.und _ _ hk
        split at h
        · rename_i h3
          rw [h3] at hu
          split at h
          · cases h; cases rx
            exact ⟨by simp [convert, run_underlying hs, run_underlying hd, run_underlying hu, Conv.bytesToString], .string _⟩
          · rename_i id off n
            split at h
            · rename_i vs hvs
              split at h
              · rename_i bs hbs; cases h
                cases rx with
                | slice hl hE0 hlen hav =>
                  rename_i cap l
                  obtain ⟨vs', hr, hn, hc⟩ := readRun (P := P) r hl hvs
                  have hb := bytesV_ok hr hbs
                  refine ⟨?_, .string _⟩
                  simp only [convert, Sem.run_bind, run_underlying hs, run_underlying hd, Result.andThen_ok, run_underlying hu, Conv.bytesToString, hc w rfl]
                  rw [hb]
                  rw [← Array.forIn_toList]
                  simp only [Sem.run_pure]
                  simp
                  rw [push_all]
                  apply ByteArray.ext
                  simp
              · cases h
            · cases h
          · cases h
        · cases h
      · cases h
    · cases h
  · cases h

/-! ### Maps whose keys are numbers or texts -/
def plainKeyD : TypeDesc → Bool
  | .string | .int _ => true
  | _ => false

def ERel (e : Emb) (es : List MapEntry) (es' : List MapEntry) : Prop := es.length = es'.length ∧ ∀ (i : Nat) (x x' : MapEntry), es[i]? = some x → es'[i]? = some x' → VRel e x.key x'.key ∧ VRel e x.val x'.val ∧ x.born = x'.born

theorem ERel.uncons {e : Emb} {x : MapEntry} {es es' : List MapEntry} (r : ERel e (x :: es) es') : ∃ x' b', es' = x' :: b' ∧ VRel e x.key x'.key ∧ VRel e x.val x'.val ∧ x.born = x'.born ∧ ERel e es b' := by
  cases es' with
  | nil => have := r.1; simp at this
  | cons x' b' =>
    obtain ⟨h1, h2, h3⟩ := r.2 0 x x' rfl rfl
    exact ⟨x', b', rfl, h1, h2, h3, by have := r.1; simpa using this, fun i u u' y z => r.2 (i + 1) u u' (by simpa using y) (by simpa using z)⟩

theorem bytes_beq {a b : ByteArray} (h : (a == b) = true) : a = b := by
  obtain ⟨a⟩ := a; obtain ⟨b⟩ := b
  have : (a == b) = true := h
  rw [beq_iff_eq.1 this]

theorem sameNow_rel {e : Emb} {d : TypeDesc} (hd : plainKeyD d = true) {a a' b b' : Value} (ra : VRel e a a') (rb : VRel e b b') {t : Bool} (h : Instr.sameNow d a b = some t) : Instr.sameNow d a' b' = some t ∧ (t = true → a' = b') := by
  unfold Instr.sameNow at h
  split at h
  · cases ra; cases rb
    split at h
    · rename_i hk; subst hk; cases h
      exact ⟨by simp [Instr.sameNow], fun ht => by rw [beq_iff_eq.1 ht]⟩
    · cases h
  · cases ra; cases rb; cases h
    exact ⟨by simp [Instr.sameNow], fun ht => by rw [bytes_beq ht]⟩
  · simp [plainKeyD] at hd
  · cases h

theorem findNow_rel {e : Emb} {d : TypeDesc} (hd : plainKeyD d = true) {k k' : Value} (rk : VRel e k k') : ∀ {es es' : List MapEntry} (i : Nat), ERel e es es' →
    (Instr.findNow d k es i = some none → Instr.findNow d k' es' i = some none) ∧
    (∀ j v, Instr.findNow d k es i = some (some (j, v)) → ∃ v', Instr.findNow d k' es' i = some (some (j, v')) ∧ VRel e v v' ∧ i ≤ j ∧ ∃ x x', es[j - i]? = some x ∧ es'[j - i]? = some x' ∧ x.val = v ∧ x'.key = k' )
  | [], es', i, r => by
    obtain rfl : es' = [] := by have := r.1; cases es' <;> simp_all
    exact ⟨fun _ => rfl, fun j v h => by simp [Instr.findNow] at h⟩
  | x :: es, es', i, r => by
    obtain ⟨x', b', rfl, h1, h2, h3, hr⟩ := r.uncons
    obtain ⟨ih1, ih2⟩ := findNow_rel hd rk (i + 1) hr
    cases hs : Instr.sameNow d k x.key with
    | none => exact ⟨fun h => by simp [Instr.findNow, hs] at h, fun j v h => by simp [Instr.findNow, hs] at h⟩
    | some t =>
      obtain ⟨hs', hk⟩ := sameNow_rel hd rk h1 hs
      cases t with
      | true =>
        refine ⟨fun h => by simp [Instr.findNow, hs] at h, fun j v h => ?_⟩
        simp only [Instr.findNow, hs, Option.some.injEq, Prod.mk.injEq] at h
        obtain ⟨rfl, rfl⟩ := h
        exact ⟨x'.val, by simp [Instr.findNow, hs'], h2, Nat.le_refl _, x, x', by simp, by simp, rfl, (hk rfl).symm⟩
      | false =>
        refine ⟨fun h => ?_, fun j v h => ?_⟩
        · simp only [Instr.findNow, hs] at h
          simp only [Instr.findNow, hs']; exact ih1 h
        · simp only [Instr.findNow, hs] at h
          obtain ⟨v', a, b, c, y, y', d1, d2, d3, d4⟩ := ih2 j v h
          exact ⟨v', by simp only [Instr.findNow, hs']; exact a, b, by omega, y, y', by rw [show j - i = (j - (i + 1)) + 1 by omega]; simpa using d1, by rw [show j - i = (j - (i + 1)) + 1 by omega]; simpa using d2, d3, d4⟩

theorem run_checkKey {P : Program} {t : TypeId} {d : TypeDesc} (hu : P.underlying t = some d) (hd : plainKeyD d = true) (b : Bool) (v : Value) (w : World) : (Instr.checkKey b 10000 t v).run P w = .ok () w := by
  show (Instr.checkKey b (9999 + 1) t v).run P w = _
  generalize 9999 = n
  unfold Instr.checkKey
  simp only [Sem.run_bind, run_underlying hu, Result.andThen_ok]
  cases d <;> simp [plainKeyD] at hd <;> simp

theorem run_findKey {P : Program} {t : TypeId} {d : TypeDesc} (hu : P.underlying t = some d) {k : Value} {es : List MapEntry} {r : Option (Nat × Value)} (h : Instr.findNow d k es 0 = some r) (w : World) : (Instr.findKey t k es).run P w = .ok r w := by
  unfold Instr.findKey
  simp only [Sem.run_bind, run_underlying hu, Result.andThen_ok, h, Sem.run_pure]

def mapOf (T : Tr) : Value → Option (List MapEntry)
  | .map none => some []
  | .map (some id) => match T.get id with
    | some (.map es _) => some es
    | _ => none
  | _ => none

theorem mapOf_ok {e : Emb} {H : AHeap} {w : World} (r : Rep e H w) {m m' : Value} (rm : VRel e m m') {es : List MapEntry} (h : mapOf H.t m = some es) :
    (m' = .map none ∧ es = []) ∨ ∃ b es' clock, m' = .map (some b) ∧ w.heap[b]? = some (.map es' clock) ∧ ERel e es es'.toList := by
  unfold mapOf at h
  split at h
  · cases h; cases rm
    exact .inl ⟨rfl, rfl⟩
  · rename_i id
    split at h
    · rename_i es2 clock ho; cases h
      cases rm with
      | map hl =>
        obtain ⟨l2, hl2, hrel⟩ := r.obj id _ ho
        rw [hl] at hl2; cases hl2
        obtain ⟨es', h1, h2, h3⟩ := hrel
        exact .inr ⟨_, es', clock, rfl, h1, ⟨by simpa using h2, fun i x x' hx hx' => h3 i x x' hx (by simpa using hx')⟩⟩
    · cases h
  · cases h

def lookupV (E : Env) (t : TypeId) (m k : Value) (ok : Bool) (T : Tr) : Option Value :=
  match E.ty t with
  | some i => match i.desc with
    | .map kt et => match E.ty kt, E.ty et, mapOf T m with
      | some ik, some ie, some es => bif plainKeyD ik.desc then match Instr.findNow ik.desc k es 0 with
          | some (some (_, v)) => some (bif ok then pair v true else v)
          | some none => some (bif ok then pair ie.zero false else ie.zero)
          | none => none
        else none
      | _, _, _ => none
    | _ => none
  | none => none

theorem lookupV_ok {P : Program} {E : Env} (hE : EnvOk P E) {e : Emb} {H : AHeap} {w : World} (r : Rep e H w) {t : TypeId} {m m' k k' v : Value} {ok : Bool} (rm : VRel e m m') (rk : VRel e k k') (h : lookupV E t m k ok H.t = some v) :
    ∃ v', (Instr.lookup t m' k' ok).run P w = .ok v' w ∧ VRel e v v' := by
  unfold lookupV at h
  split at h
  · rename_i i hi
    have hs := hE.und _ _ hi
    split at h
    · rename_i kt et hd
      rw [hd] at hs
      split at h
      · rename_i ik ie es hik hie hes
        have hku := hE.und _ _ hik
        cases hp : plainKeyD ik.desc with
        | false => rw [hp] at h; cases h
        | true =>
          rw [hp, cond_true] at h
          obtain ⟨es', her, hbody⟩ : ∃ es' : Array MapEntry, ERel e es es'.toList ∧ ∀ (found : Option (Nat × Value)), Instr.findNow ik.desc k' es'.toList 0 = some found →
              (Instr.lookup t m' k' ok).run P w = .ok (match found with
                | some (_, v) => if ok then pair v true else v
                | none => if ok then pair ie.zero false else ie.zero) w := by
            rcases mapOf_ok r rm hes with ⟨rfl, rfl⟩ | ⟨b, es', clock, rfl, hb, her⟩
            · refine ⟨#[], ⟨rfl, fun i x x' hx => by simp at hx⟩, fun found hf => ?_⟩
              simp only [Instr.findNow] at hf; cases hf
              have hf2 := run_findKey (P := P) hku (k := k') (es := []) (r := none) rfl w
              unfold Instr.lookup
              simp only [Sem.run_bind, run_underlying hs, Result.andThen_ok, Sem.run_pure, run_checkKey hku hp, hf2, run_zero hE hie]
              cases ok <;> simp [pair]
            · refine ⟨es', her, fun found hf => ?_⟩
              have hf2 := run_findKey (P := P) hku hf w
              have hget : (getObj b).run P w = .ok (.map es' clock) w := by simp [getObj, Sem.run, hb]
              unfold Instr.lookup
              simp only [Sem.run_bind, run_underlying hs, Result.andThen_ok, hget, Sem.run_pure, run_checkKey hku hp, hf2]
              cases found with
              | none => cases ok <;> simp [run_zero hE hie, pair]
              | some p => cases ok <;> simp [pair]
          obtain ⟨f1, f2⟩ := findNow_rel hp rk 0 her
          split at h
          · rename_i j u hf
            obtain ⟨u', hu, hur, _⟩ := f2 j u hf
            cases h
            refine ⟨_, hbody _ hu, ?_⟩
            cases ok
            · exact hur
            · exact pair_rel hur true
          · rename_i hf
            cases h
            refine ⟨_, hbody _ (f1 hf), ?_⟩
            cases ok
            · exact hE.zero _ _ hie e
            · exact pair_rel (hE.zero _ _ hie e) false
          · cases h
      · cases h
    · cases h
  · cases h

end Go.WeftN
