/- MachineNil: the given statement: for every number the law returns true, and the number reads as it did; the card of it. -/
import Derived.Test.YtnlacfnniflkdaaGreatDoorK6
import Derived.Test.YtnlacfnniflkdaaGreatDoorRows
import Derived.Test.YtnlacfnniflkdaaGreatDoorTie
import Derived.Test.YtnlacfnniflkdaaGreatDoorCards
import Derived.WalkKit
import Derived.ProofKit
import Derived.OpenShut
import Derived.Lay
import Derived.LaidOnce
import Derived.Lib.LaidU8
import Derived.SevenTiedAt
namespace Go.Proofs.YtnlacfnniflkdaaGreatDoor
open Go.ChangeShapes Go.WideShapes Go.ChangeAt Go.RowKit Go.WeftN Go.Proofs.Tryz
set_option maxRecDepth 100000

theorem own : ownKnob Tryz.prog.godebug = none := by kernel_rfl

noncomputable def asciiZ : List Int := (List.range 256).map fun n => if n == 32 || (9 ≤ n && n ≤ 13) then 1 else 0
theorem ascii_vals : ascii = asciiZ.map fun z => Value.int .u8 z := by kernel_rfl
theorem ascii_data : (Rows.laid_strings_asciiSpace : DataW Unit) = Lib.tabData .u8 asciiZ := by kernel_rfl

/-- What the row's list gives: the table of white space. -/
theorem has_of {W : World} (h : laidMet Tryz.prog (Rows.machineNilRow.laid.filter fun x => x.2.handleName?.isNone) W) : Has Tryz.tab rt 100 W := by
  have hm : ("strings.asciiSpace", Rows.laid_strings_asciiSpace) ∈ Rows.machineNilRow.laid.filter fun x => x.2.handleName?.isNone := by
    rw [List.mem_filter]
    exact ⟨by simp [Rows.machineNilRow], by kernel_rfl⟩
  obtain ⟨g, t, cs, fuel, p, hg, hty, hvar, hd⟩ := Lib.laidMet.reads h hm
  obtain rfl := Option.some.inj ((show Tryz.prog.globalNamed "strings.asciiSpace" = some 1 by kernel_rfl).symm.trans hg)
  obtain rfl := Option.some.inj ((show (Tryz.prog.globals[1]?).map (·.type) = some 361 by kernel_rfl).symm.trans hty)
  rw [ascii_data] at hd
  have hcs := Lib.cells_of_tab (n := 256) (e := 5) (by kernel_rfl) (by kernel_rfl) (by kernel_rfl) (by kernel_rfl) hd
  rw [← ascii_vals] at hcs
  refine ⟨fun i cs2 hi => ?_, fun g hg => glob_ok g hg, rt_lt⟩
  obtain ⟨rfl, he⟩ := rt_get i _ hi
  cases he
  simp only [World.var?, hg, Option.bind_some] at hvar
  split at hvar
  · rename_i c elem fr hb
    cases hvar
    refine ⟨cs, elem, fr, hb, by rw [← hcs]; simp, fun j v hj => ⟨v, ?_, rfl, allPlain0_get ascii_plain j v hj⟩⟩
    rw [← hcs] at hj
    simpa using hj
  · cases hvar

theorem lifted (os : Os) (started : os.Started) (H : Type) (enc : TypeId × Value → H) :
    ReturnsInHanded {} Tryz.checked os 3 .any (fun w args => (Rows.machineNilSpec.pre enc Tryz.prog Tryz.f3 [] false w args ∧ laidMetH Tryz.prog Rows.machineNilRow.laid w) ∧ sizedMet enc Tryz.prog Tryz.f3 (OpenSpec.ofChange Rows.machineNilSpec) false w args)
      (Rows.machineNilSpec.post enc Tryz.prog Tryz.f3 false true false false) := by
  refine returnsInHanded_of_change_and (C := Tryz.checked) (X := fun w _ => laidMetH Tryz.prog Rows.machineNilRow.laid w) (fun _ _ _ hh h => h.of_heap hh) own started (by kernel_rfl) Tryz.func3
    (ChangeSpec.witness_shaped (enc := enc) (C := Tryz.checked) (os := os) (X := fun w _ => laidMetH Tryz.prog Rows.machineNilRow.laid w) false (World.laidAll Tryz.prog os Rows.machineNilRow.laid) #[.int .i64 0] 8 (World.laidAll_os _ _ _)
      (World.shaped_of_ZipB (by kernel_rfl) (by kernel_rfl)) (by kernel_rfl) (by kernel_rfl) (by kernel_rfl)
      (by rw [MakeChecks.laidMetH_plain _ _ _ (by kernel_rfl)]; exact laidMet_laidAll _ (by kernel_rfl) (by kernel_rfl))) ?_
  intro W base args ds gs before hval0 hW _ _ hL _
  have hval : ∀ (j : Nat) t v, Tryz.f3.params[j]? = some t → args[j]? = some v → Value.okWide Tryz.prog W .any base t v := hval0
  have hW' := hW
  obtain ⟨p, q, hA0, hV, rfl, hfz, hnd⟩ := hW
  have hA : DataW.TrodAll enc Tryz.prog W 0 (fun _ => true) true Tryz.f3.params.toList args.toList ds p := hA0
  rw [Tryz.params3] at hA hval
  obtain ⟨v0, d0, rfl, rfl, h0⟩ := trodAll_one hA
  obtain ⟨rfl, rfl⟩ := trodVars_none hV
  obtain ⟨n, rfl, rfl, rfl, hn⟩ := open_int Tryz.underlying3 (hval 0 3 v0 rfl rfl) h0
  rw [MakeChecks.laidMetH_plain _ _ _ (by kernel_rfl)] at hL
  have hfl : (Rows.machineNilRow.laid.filter fun x => x.2.handleName?.isNone) = Rows.machineNilRow.laid := List.filter_eq_self.2 (List.all_eq_true.1 (by kernel_rfl))
  have hH := has_of (hfl.symm ▸ hL)
  clear hA0 hval0
  simp only [List.append_nil] at hW'
  refine (nil_calls n hH).mono fun e W' ⟨he, hos, hout, hsz, hkeep⟩ => ?_
  subst he
  refine ⟨_, rfl, _, _, _, [], [], [], hW', trodAll_mk1 (shut_bool Tryz.underlying4 _), trodAll_mk1 (shut_int Tryz.underlying3 hn), rfl, ⟨hos, hout, fun i hi => ?_⟩, fun h => by cases h⟩
  rw [hkeep i hi]
  split
  · rename_i h1 h2
    rw [h1] at h2; cases h2
    exact ⟨rfl, rfl, rfl, fun _ _ => rfl⟩
  · rename_i h1 h2
    rw [h1] at h2; cases h2
    exact .inr ⟨rfl, rfl⟩
  · rfl

end Go.Proofs.YtnlacfnniflkdaaGreatDoor
