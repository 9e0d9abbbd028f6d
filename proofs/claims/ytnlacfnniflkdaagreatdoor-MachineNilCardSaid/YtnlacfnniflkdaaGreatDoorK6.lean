/- MachineNil returns true, whatever the number, from any world that has the table of white space. -/
import Derived.Test.YtnlacfnniflkdaaGreatDoorC2
namespace Go.Proofs.Tryz
open Go.WeftN
set_option maxRecDepth 100000

noncomputable def chkT (r : Option (List Res)) : Bool := match r with
  | some l => l.all fun r => match r with
    | .call (.ret (.bool true)) _ _ => true
    | _ => false
  | _ => false
theorem chkT_some {r : Option (List Res)} (h : chkT r = true) : ∃ rs, r = some rs ∧ ∀ x ∈ rs, ∃ up H, x = .call (.ret (.bool true)) up H := by
  unfold chkT at h
  split at h
  · rename_i l
    refine ⟨l, rfl, fun x hx => ?_⟩
    rw [List.all_eq_true] at h
    have := h x hx
    split at this
    · exact ⟨_, _, rfl⟩
    · cases this
  · cases h

theorem nil_run (n : Int) : chkT (evC tab (drawD tab) [c1, c2] 3000 (.call 3 [.int .i64 n] false none) ⟨rt, 100⟩) = true := by kernel_rfl

theorem cuts_ok : ∀ c ∈ [c1, c2], CutOk prog tab rt c := by
  intro c hc
  simp only [List.mem_cons, List.mem_nil_iff, or_false] at hc
  rcases hc with rfl | rfl
  · exact c1_ok
  · exact c2_ok

theorem nil_calls (n : Int) {W : World} (hW : Has tab rt 100 W) : Calls prog 3 #[.int .i64 n] W fun en w' => en = .returned (.bool true) ∧ w'.os = W.os ∧ w'.output = W.output ∧ W.heap.size ≤ w'.heap.size ∧ (∀ b, b < W.heap.size → w'.heap[b]? = W.heap[b]?) := by
  obtain ⟨rs, h1, h2⟩ := chkT_some (nil_run n)
  exact calls_of rt_only (evC_met rt_only tab_ok (drawD_ok tab_ok) cuts_ok 3000) hW (args := [.int .i64 n]) (.cons (.int .i64 n) (.nil _)) h1 h2 rfl (fun e v' h => by cases h; rfl)

end Go.Proofs.Tryz
