/- append and copy. -/
import Derived.Test.YtnlacfnniflkdaaGreatDoorNH
namespace Go.WeftN

def srcN : Value → Nat
  | .string s => s.data.toList.length
  | .slice _ n _ => n
  | _ => 0

def srcV (T : Tr) (sz : Nat) : Value → Option (List Value)
  | .string s => bif Nat.beq sz 1 then some (s.data.toList.map fun b => .int .u8 b.toNat) else none
  | .slice none 0 0 => some []
  | .slice (some ⟨id, off, none⟩) n k => bif Nat.beq k sz then readV T id off (n * sz) else none
  | .slice (some ⟨0, 0, some 0⟩) 0 0 => some []
  | _ => none

theorem LRel.map_same {α : Type} (e : Emb) (f : α → Value) (l : List α) (h : ∀ x ∈ l, VRel e (f x) (f x)) : LRel e (l.map f) (l.map f) := by
  induction l with
  | nil => exact .nil e
  | cons x l ih => exact .cons (h x (by simp)) (ih fun y hy => h y (by simp [hy]))

theorem cell_heap {w w2 : World} (h : w2.heap = w.heap) (a : Addr) : w2.cell? a = w.cell? a := by simp [World.cell?, h]

theorem readRun {P : Program} {e : Emb} {H : AHeap} {w : World} (r : Rep e H w) {id off n : Nat} {l : Loc} (hl : e id = some l) {vs : List Value} (h : readV H.t id off n = some vs) :
    ∃ vs', LRel e vs vs' ∧ vs'.length = n ∧ ∀ w2 : World, w2.heap = w.heap → (loadCells ⟨l.blk, l.base + off, none⟩ n).run P w2 = .ok vs'.toArray w2 := by
  obtain ⟨vs', hr, hn, hc⟩ := readV_ok r hl h
  refine ⟨vs', hr, hn, fun w2 hw => ?_⟩
  have hrun := run_loadCells_list (P := P) w2 ⟨l.blk, l.base + off, none⟩ vs' (fun j v hj => by rw [cell_heap hw]; exact hc j v hj)
  rwa [hn] at hrun

theorem srcV_ok {P : Program} {e : Emb} {H : AHeap} {w : World} (r : Rep e H w) {sz : Nat} {x x' : Value} (rx : VRel e x x') {vs : List Value} (h : srcV H.t sz x = some vs) :
    ∃ vs', LRel e vs vs' ∧ vs'.length = srcN x * sz ∧ ∀ w2 : World, w2.heap = w.heap → (Builtin.lenOf x').run P w2 = .ok (srcN x) w2 ∧ (Builtin.firstCells sz (srcN x) x').run P w2 = .ok vs'.toArray w2 := by
  unfold srcV at h
  split at h
  · rename_i s
    cases hs : Nat.beq sz 1 with
    | false => rw [hs] at h; cases h
    | true =>
      rw [hs, cond_true] at h; cases h
      obtain rfl := Nat.eq_of_beq_eq_true hs
      cases rx
      refine ⟨_, LRel.map_same e _ _ (fun b _ => .int _ _), by simp [srcN], fun w2 _ => ⟨rfl, ?_⟩⟩
      have : s.extract 0 s.data.toList.length = s := by
        rw [strCut_eq]; unfold strCut; simp only [List.drop_zero, Nat.sub_zero, List.take_length]
      simp only [Builtin.firstCells, srcN, this, Sem.run_pure]
      congr 1
      apply Array.ext'; simp
  · cases h; cases rx
    exact ⟨[], .nil e, by simp [srcN], fun w2 _ => ⟨by simp [Builtin.lenOf, srcN], by simp [Builtin.firstCells]⟩⟩
  · rename_i id off n k
    cases hs : Nat.beq k sz with
    | false => rw [hs] at h; cases h
    | true =>
      rw [hs, cond_true] at h
      obtain rfl := Nat.eq_of_beq_eq_true hs
      cases rx with
      | slice hl hE0 hlen hav =>
        obtain ⟨vs', hr, hn, hc⟩ := readRun (P := P) r hl h
        exact ⟨vs', hr, hn, fun w2 hw => ⟨by simp [Builtin.lenOf, srcN], by simpa [Builtin.firstCells, srcN] using hc w2 hw⟩⟩
  · cases h
    cases rx with
    | empty a cap => exact ⟨[], .nil e, by simp [srcN], fun w2 _ => ⟨by simp [Builtin.lenOf, srcN], by simp [Builtin.firstCells, srcN, loadCells, loadCellsFrom]⟩⟩
  · cases h

def isIntD : TypeDesc → Bool
  | .int _ => true
  | _ => false

theorem growBy_le (n : Nat) : ∀ k c, c ≤ 3 * n + 4000 → Builtin.growBy n k c ≤ 6 * n + 8000
  | 0, c, h => by simp only [Builtin.growBy]; omega
  | k + 1, c, h => by
    simp only [Builtin.growBy]
    split
    · omega
    · exact growBy_le n k _ (by omega)

theorem nextslicecap_le {n c : Nat} (h : c < n) : Builtin.nextslicecap n c ≤ 6 * n + 8000 := by
  unfold Builtin.nextslicecap
  split
  · omega
  · split
    · omega
    · exact growBy_le n 4 c (by omega)

section
variable {P : Program} {E : Env} (hE : EnvOk P E) {ts : Array TypeId} {t u el ty : TypeId} {i j k : TI} (h0 : ts[0]? = some t) (h1 : ts[1]? = some u) (ht : E.ty t = some i) (hd : i.desc = .slice el) (hj : E.ty el = some j) (hk : E.ty u = some k) (hki : isIntD k.desc = false)
include hE h0 h1 ht hd hj hk hki

theorem run_append_fit {a : Addr} {len cap n : Nat} {x' : Value} {vs' : List Value} {w w' : World} (hl : (Builtin.lenOf x').run P w = .ok n w) (hf : (Builtin.firstCells j.size n x').run P w = .ok vs'.toArray w)
    (hc : len + n ≤ cap) (hs : (storeCells (a.add (len * j.size)) vs' 0).run P w = .ok () w') : (Builtin.append_ ts ty #[.slice (some a) len cap, x']).run P w = .ok (.slice (some a) (len + n) cap) w' := by
  have hu := hE.und t i ht
  have hu2 := hE.und u k hk
  rw [hd] at hu
  cases hdd : k.desc <;> rw [hdd] at hki hu2 <;> first
    | (simp [isIntD] at hki; done)
    | skip
  all_goals
    unfold Builtin.append_
    simp only [h0, h1, List.getElem?_toArray, List.getElem?_cons_zero, List.getElem?_cons_succ, Sem.run_bind, run_underlying hu, Result.andThen_ok, run_size hE hj, run_underlying hu2, Sem.run_pure]
    simp only [Bool.false_eq_true, if_false, Sem.run_bind, hl, Result.andThen_ok, Bool.not_false, if_true]
    rw [if_pos hc]
    simp only [Sem.run_bind, hf, Result.andThen_ok, hs, Sem.run_pure]

theorem run_append_fit_nil {x' : Value} {vs' : List Value} {w : World} (hl : (Builtin.lenOf x').run P w = .ok 0 w) (hf : (Builtin.firstCells j.size 0 x').run P w = .ok vs'.toArray w) :
    (Builtin.append_ ts ty #[.slice none 0 0, x']).run P w = .ok (.slice none 0 0) w := by
  have hu := hE.und t i ht
  have hu2 := hE.und u k hk
  rw [hd] at hu
  cases hdd : k.desc <;> rw [hdd] at hki hu2 <;> first
    | (simp [isIntD] at hki; done)
    | skip
  all_goals
    unfold Builtin.append_
    simp only [h0, h1, List.getElem?_toArray, List.getElem?_cons_zero, List.getElem?_cons_succ, Sem.run_bind, run_underlying hu, Result.andThen_ok, run_size hE hj, run_underlying hu2, Sem.run_pure]
    simp only [Bool.false_eq_true, if_false, Sem.run_bind, hl, Result.andThen_ok, Bool.not_false, if_true]
    rw [if_pos (by omega)]
    simp only [Sem.run_bind, hf, Result.andThen_ok, Sem.run_pure]

theorem run_append_grow {base : Option Addr} {len cap n : Nat} {x' : Value} {old vs' : List Value} {w : World} (hl : (Builtin.lenOf x').run P w = .ok n w) (_ : (Builtin.firstCells j.size n x').run P w = .ok vs'.toArray w)
    (ho : (Builtin.firstCells j.size len (.slice base len cap)).run P w.drew = .ok old.toArray w.drew) (hf2 : (Builtin.firstCells j.size n x').run P w.drew = .ok vs'.toArray w.drew) (hc : cap < len + n) (hb : (6 * (len + n) + 8000) * j.bytes ≤ 2 ^ 48) (hsm : len + n < 2 ^ 40) :
    ∃ nc, len + n ≤ nc ∧ (Builtin.append_ ts ty #[.slice base len cap, x']).run P w = .ok (.slice (some ⟨w.heap.size, 0, none⟩) (len + n) nc)
      { w with heap := w.heap.push (.cells (old.toArray ++ vs'.toArray ++ Builtin.zeroCells j.zero.cells (nc - (len + n))) el), drawn := w.drawn + 1 } := by
  have hu := hE.und t i ht
  have hu2 := hE.und u k hk
  rw [hd] at hu
  refine ⟨len + n + (w.tape w.drawn (.appendCap (len + n) cap el)) % (2 ^ 63 - (len + n)), by omega, ?_⟩
  obtain ⟨ji, hji, hjb⟩ := run_bytes hE hj w
  cases hdd : k.desc <;> rw [hdd] at hki hu2 <;> first
    | (simp [isIntD] at hki; done)
    | skip
  all_goals
    unfold Builtin.append_
    simp only [h0, h1, List.getElem?_toArray, List.getElem?_cons_zero, List.getElem?_cons_succ, Sem.run_bind, run_underlying hu, Result.andThen_ok, run_size hE hj, run_underlying hu2, Sem.run_pure]
    simp only [Bool.false_eq_true, if_false, Sem.run_bind, hl, Result.andThen_ok, Bool.not_false, if_true]
    rw [if_neg (by omega)]
    simp only [Sem.run_bind, hji, Result.andThen_ok]
    have hmax : ¬ (((len + n : Nat) : Int) > IntKind.i64.max ∧ (False ∨ ji.bytes = 0)) := by
      intro hx
      have : IntKind.i64.max = 9223372036854775807 := by decide
      omega
    rw [if_neg hmax]
    have hle : Builtin.nextslicecap (len + n) cap * j.bytes ≤ 2 ^ 48 := Nat.le_trans (Nat.mul_le_mul_right _ (nextslicecap_le hc)) hb
    simp only [Sem.run_bind, hji, Result.andThen_ok, hjb]
    rw [if_neg (by omega)]
    obtain ⟨ji2, hji2, hjb2⟩ := run_bytes hE hj w.drew
    have hch : (choose (.appendCap (len + n) cap el)).run P w = .ok (len + n + (w.tape w.drawn (.appendCap (len + n) cap el)) % (2 ^ 63 - (len + n))) w.drew := by
      rfl
    simp only [Sem.run_bind, hch, Result.andThen_ok, hji2, run_askRoom, ho, hf2, run_zero hE hj, newRow, run_newObj, Sem.run_pure]
    rfl

end

theorem zeroCells_eq (z : Array Value) (n : Nat) : Builtin.zeroCells z n = (zerosV z.toList n).toArray := zeros_eq z n _ rfl

end Go.WeftN
