/- The tables of this program are right. -/
import Derived.Test.YtnlacfnniflkdaaGreatDoorK2
import Derived.Test.YtnlacfnniflkdaaGreatDoorNZk
namespace Go.Proofs.Tryz
open Go.WeftN
set_option maxRecDepth 100000

noncomputable def ascii : List Value := (List.range 256).map fun n => .int .u8 (if n == 32 || (9 ≤ n && n ≤ 13) then 1 else 0)
noncomputable def rt : Tr := Tr.nil.set 1 (some (.rom ascii))
noncomputable def liesV (e m o u : Nat) : Bool := Nat.beq o 0 && Nat.beq u 259 && (Nat.beq e 259 && Nat.beq m 2 || Nat.beq e 295 && Nat.beq m 5)
noncomputable def eqsV (t : Nat) : Option (List (Nat × TypeDesc)) := bif Nat.beq t 135 then some [(0, .int .i64), (1, .string), (2, .int .i64), (3, .string), (4, .int .i64), (5, .int .i64)] else none
noncomputable def extV (f : Nat) : Option (List Value → Option Eff) := bif Nat.beq f 207 then some indexByteV else bif Nat.beq f 234 then some sameV else none
noncomputable def keysV : List Value := [.string ⟨#[97, 100, 100, 114]⟩, .string ⟨#[99, 97, 108, 108]⟩, .string ⟨#[99, 111, 112, 121]⟩, .string ⟨#[101, 108, 115, 101]⟩, .string ⟨#[101, 120, 116, 101, 114, 110]⟩, .string ⟨#[102, 110]⟩, .string ⟨#[102, 114, 101, 101]⟩, .string ⟨#[103, 108, 111, 98, 97, 108]⟩, .string ⟨#[105, 99, 97, 108, 108]⟩, .string ⟨#[105, 102]⟩, .string ⟨#[105, 110, 100, 101, 120]⟩, .string ⟨#[105, 110, 112, 117, 116]⟩, .string ⟨#[105, 110, 116]⟩, .string ⟨#[105, 115, 110, 117, 108, 108]⟩, .string ⟨#[108, 101, 115, 115]⟩, .string ⟨#[108, 111, 97, 100]⟩, .string ⟨#[109, 101, 109, 98, 101, 114]⟩, .string ⟨#[109, 105, 110, 117, 115]⟩, .string ⟨#[109, 111, 100, 117, 108, 101]⟩, .string ⟨#[110, 101, 119]⟩, .string ⟨#[110, 117, 108, 108]⟩, .string ⟨#[111, 98, 106]⟩, .string ⟨#[112, 108, 117, 115]⟩, .string ⟨#[112, 116, 114]⟩, .string ⟨#[114, 101, 116, 117, 114, 110]⟩, .string ⟨#[115, 97, 109, 101]⟩, .string ⟨#[115, 116, 97, 116, 105, 99]⟩, .string ⟨#[115, 116, 111, 114, 101]⟩, .string ⟨#[115, 116, 114, 117, 99, 116]⟩, .string ⟨#[116, 105, 109, 101, 115]⟩, .string ⟨#[118, 97, 114]⟩, .string ⟨#[119, 104, 105, 108, 101]⟩]

noncomputable def env : Env := ⟨tyT.get, fun g => Nat.beq g 1, liesV, eqsV⟩
noncomputable def tab0 : Tab := { E := env, fn := fnT.get, ext := extV, orc := fun _ => none }
noncomputable def keysMk : List Value → Option Mk
  | [] => some (mkList keysV 0 9 32 1)
  | _ => none
noncomputable def orcV (f : Nat) : Option (List Value → Option Mk) := bif Nat.beq f 210 then some keysMk else none
noncomputable def tab : Tab := { tab0 with orc := orcV }

theorem rt_get (i : Nat) (o : AObj) (h : rt.get i = some o) : i = 1 ∧ o = .rom ascii := by
  unfold rt at h
  rw [Tr.get_set] at h
  split at h
  · rename_i hi; cases h; exact ⟨hi, rfl⟩
  · rw [Tr.get_nil] at h; cases h
theorem rt_one : rt.get 1 = some (.rom ascii) := by unfold rt; rw [Tr.get_set, if_pos rfl]
theorem rt_only : OnlyRom rt := fun i o h => ⟨ascii, (rt_get i o h).2⟩
theorem rt_lt (i : Nat) (o : AObj) (h : rt.get i = some o) : i < 100 := by rw [(rt_get i o h).1]; decide
theorem ascii_plain : allPlain0 ascii = true := by kernel_rfl
theorem rt_plain (i : Nat) (cs : List Value) (h : rt.get i = some (.rom cs)) : allPlain0 cs = true := by
  have := (rt_get i _ h).2
  cases this
  exact ascii_plain

theorem lies_1 : liesAt prog prog.depth 259 1 0 259 1 = true := by kernel_rfl
theorem lies_2 : liesAt prog prog.depth 295 1 0 259 1 = true := by kernel_rfl
theorem size_1 : (tyT.get 259).map (·.size) = some 2 := by kernel_rfl
theorem size_2 : (tyT.get 295).map (·.size) = some 5 := by kernel_rfl

theorem env_ok : EnvOk prog env := by
  refine envOk_of (n := 10) (fun t => by show tyT.get t = _; rw [tyT_eq]) ?_ ?_
  · intro e m o u h i hi _
    simp only [env, liesV, Bool.and_eq_true, Bool.or_eq_true] at h
    obtain ⟨⟨h3, h4⟩, h⟩ := h
    obtain rfl := Nat.eq_of_beq_eq_true h3
    obtain rfl := Nat.eq_of_beq_eq_true h4
    rcases h with ⟨h1, h2⟩ | ⟨h1, h2⟩
    · obtain rfl := Nat.eq_of_beq_eq_true h1
      obtain rfl := Nat.eq_of_beq_eq_true h2
      have hs : (tyT.get 259).map (·.size) = some i.size := by rw [show tyT.get 259 = some i from hi]; rfl
      rw [size_1] at hs
      have hs2 : 2 = i.size := Option.some.inj hs
      rw [← hs2]
      exact lies_1
    · obtain rfl := Nat.eq_of_beq_eq_true h1
      obtain rfl := Nat.eq_of_beq_eq_true h2
      have hs : (tyT.get 295).map (·.size) = some i.size := by rw [show tyT.get 295 = some i from hi]; rfl
      rw [size_2] at hs
      have hs2 : 5 = i.size := Option.some.inj hs
      rw [← hs2]
      exact lies_2
  · intro t l h
    simp only [env, eqsV] at h
    cases ht : Nat.beq t 135 with
    | false => rw [ht] at h; cases h
    | true =>
      rw [ht, cond_true] at h
      obtain rfl := Nat.eq_of_beq_eq_true ht
      cases h
      refine ⟨by kernel_rfl, by kernel_rfl, ?_⟩
      have hd : eqFieldsB prog (prog.underlying 135) [(0, .int .i64), (1, .string), (2, .int .i64), (3, .string), (4, .int .i64), (5, .int .i64)] = true := by kernel_rfl
      exact eqFieldsB_ok hd

theorem fn_ok {f : FuncId} {F : Func} (h : fnT.get f = some F) : prog.funcs[f]? = some F ∧ (F.name == "runtime.NumGoroutine") = false := by
  rw [fnT_eq] at h
  exact fnOk_of h

theorem mixed_ok : prog.follows .mixedOrders = true := by kernel_rfl

theorem ext_ok {f : FuncId} {g : List Value → Option Eff} {args : List Value} {x : Eff} (h : extV f = some g) (hx : g args = some x) (e : Emb) (args' : List Value) (r : LRel e args args') : EffOk prog e (callFunc f args'.toArray) x := by
  unfold extV at h
  cases h1 : Nat.beq f 207 with
  | true =>
    rw [h1, cond_true] at h; cases h
    obtain rfl := Nat.eq_of_beq_eq_true h1
    exact indexByteV_ok func207 (by kernel_rfl) (by kernel_rfl) (by kernel_rfl) (by kernel_rfl) hx e args' r
  | false =>
    rw [h1, cond_false] at h
    cases h2 : Nat.beq f 234 with
    | true =>
      rw [h2, cond_true] at h; cases h
      obtain rfl := Nat.eq_of_beq_eq_true h2
      exact sameV_ok func234 (by kernel_rfl) (by kernel_rfl) (by kernel_rfl) (by kernel_rfl) hx e args' r
    | false => rw [h2] at h; cases h

theorem tab0_ok : TabOk prog tab0 (romR rt) where
  env := env_ok
  fn := fun _ _ h => fn_ok h
  mixed := mixed_ok
  ext := fun f g args x h hx e args' r => ext_ok h hx e args' r
  orc := fun f g args m h => by cases h

theorem glob_ok (g : Nat) (h : env.glob g = true) : ∃ cs, rt.get g = some (.rom cs) := by
  obtain rfl := Nat.eq_of_beq_eq_true (show Nat.beq g 1 = true from h)
  exact ⟨ascii, rt_one⟩

theorem keys_run : listChk keysV 0 9 32 1 (ev tab0 (drawD tab0) 3000 (.call 210 [] false none) ⟨rt, 100⟩) = true := by kernel_rfl

theorem tab_ok : TabOk prog tab (romR rt) where
  env := env_ok
  fn := fun _ _ h => fn_ok h
  mixed := mixed_ok
  ext := fun f g args x h hx e args' r => ext_ok h hx e args' r
  orc := fun f g args m h hm e H w args' r hb hr => by
    have h : orcV f = some g := h
    unfold orcV at h
    cases h1 : Nat.beq f 210 with
    | false => rw [h1] at h; cases h
    | true =>
      rw [h1, cond_true] at h; cases h
      obtain rfl := Nat.eq_of_beq_eq_true h1
      unfold keysMk at hm
      split at hm
      · cases hm
        exact orc_of rt_only rt_plain (ev_met tab0_ok (drawD_ok tab0_ok) 3000) rt_lt glob_ok func210 (by kernel_rfl) (by kernel_rfl) (by kernel_rfl) keys_run e H w args' r ⟨hb.glob, hb.rom⟩ hr
      · cases hm

end Go.Proofs.Tryz
