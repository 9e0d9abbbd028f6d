/- A call whose answer is known. -/
import Derived.Test.YtnlacfnniflkdaaGreatDoorK5
import Derived.Test.YtnlacfnniflkdaaGreatDoorC1
namespace Go.Proofs.Tryz
open Go.WeftN
set_option maxRecDepth 100000
noncomputable def c2A : List Value := [.slice (some ⟨3249, 0, none⟩) 1 5, .slice none 0 0, .slice none 0 0]
noncomputable def c2K : List (Nat × AObj) := [
    (1789, .cells [.string ⟨#[112]⟩, .int .i64 2, .string ⟨#[113]⟩, .int .i64 2] false 0 130),
    (1992, .cells [.string ⟨#[120]⟩, .int .i64 2, .string ⟨#[]⟩, .int .i64 0, .slice none 0 0] false 0 177),
    (3224, .cells [.int .i64 1, .string ⟨#[112]⟩, .string ⟨#[120]⟩, .string ⟨#[]⟩, .int .i64 0, .int .i64 0, .string ⟨#[]⟩, .int .i64 0, .slice none 0 0, .slice none 0 0, .slice none 0 0, .slice none 0 0, .int .i64 4, .string ⟨#[112]⟩, .string ⟨#[112]⟩, .string ⟨#[]⟩, .int .i64 0, .int .i64 0, .string ⟨#[]⟩, .int .i64 0, .slice none 0 0, .slice none 0 0, .slice none 0 0, .slice none 0 0, .int .i64 3, .string ⟨#[113]⟩, .string ⟨#[112]⟩, .string ⟨#[]⟩, .int .i64 0, .int .i64 0, .string ⟨#[]⟩, .int .i64 0, .slice none 0 0, .slice none 0 0, .slice none 0 0, .slice none 0 0, .int .i64 8, .string ⟨#[]⟩, .string ⟨#[113]⟩, .string ⟨#[]⟩, .int .i64 0, .int .i64 0, .string ⟨#[]⟩, .int .i64 0, .slice none 0 0, .slice none 0 0, .slice none 0 0, .slice none 0 0] false 0 57),
    (3247, .cells [.string ⟨#[109, 97, 105, 110]⟩, .bool false, .slice none 0 0, .int .i64 0, .slice (some ⟨1789, 0, none⟩) 2 2, .slice (some ⟨1992, 0, none⟩) 1 5, .slice (some ⟨3224, 0, none⟩) 4 12] false 0 85),
    (3249, .cells [.string ⟨#[109]⟩, .slice none 0 0, .slice none 0 0, .slice none 0 0, .slice (some ⟨3247, 0, none⟩) 1 7] true 0 39)]
noncomputable def c2K2 : List (Nat × AObj) := [
    (1789, .cells [.string ⟨#[112]⟩, .int .i64 2, .string ⟨#[113]⟩, .int .i64 2] false 0 130),
    (1992, .cells [.string ⟨#[120]⟩, .int .i64 2, .string ⟨#[]⟩, .int .i64 0, .slice none 0 0] false 0 177),
    (3224, .cells [.int .i64 1, .string ⟨#[112]⟩, .string ⟨#[120]⟩, .string ⟨#[]⟩, .int .i64 0, .int .i64 0, .string ⟨#[]⟩, .int .i64 0, .slice none 0 0, .slice none 0 0, .slice none 0 0, .slice none 0 0, .int .i64 4, .string ⟨#[112]⟩, .string ⟨#[112]⟩, .string ⟨#[]⟩, .int .i64 0, .int .i64 0, .string ⟨#[]⟩, .int .i64 0, .slice none 0 0, .slice none 0 0, .slice none 0 0, .slice none 0 0, .int .i64 3, .string ⟨#[113]⟩, .string ⟨#[112]⟩, .string ⟨#[]⟩, .int .i64 0, .int .i64 0, .string ⟨#[]⟩, .int .i64 0, .slice none 0 0, .slice none 0 0, .slice none 0 0, .slice none 0 0, .int .i64 8, .string ⟨#[]⟩, .string ⟨#[113]⟩, .string ⟨#[]⟩, .int .i64 0, .int .i64 0, .string ⟨#[]⟩, .int .i64 0, .slice none 0 0, .slice none 0 0, .slice none 0 0, .slice none 0 0] false 0 57),
    (3247, .cells [.string ⟨#[109, 97, 105, 110]⟩, .bool false, .slice none 0 0, .int .i64 0, .slice (some ⟨1789, 0, none⟩) 2 2, .slice (some ⟨1992, 0, none⟩) 1 5, .slice (some ⟨3224, 0, none⟩) 4 12] false 0 85),
    (3249, .cells [.string ⟨#[109]⟩, .slice none 0 0, .slice none 0 0, .slice none 0 0, .slice (some ⟨3247, 0, none⟩) 1 7] true 0 39),
    (3886, .cells [.string ⟨#[109, 97, 105, 110]⟩, .bool false, .slice none 0 0, .int .i64 0, .slice (some ⟨1789, 0, none⟩) 2 2, .slice (some ⟨1992, 0, none⟩) 1 5, .slice (some ⟨3224, 0, none⟩) 4 12] false 0 85),
    (4538, .map [⟨.string ⟨#[109, 97, 105, 110]⟩, .pointer (some ⟨4558, 0, none⟩), 0⟩] 1),
    (4543, .map [] 0),
    (4545, .cells [.string ⟨#[97, 108, 108]⟩, .slice none 0 0, .slice none 0 0, .slice none 0 0, .slice (some ⟨3886, 0, none⟩) 1 7, .map (some 4538), .slice (some ⟨4814, 0, none⟩) 1 1, .slice (some ⟨4817, 0, none⟩) 1 1, .slice none 0 0, .slice none 0 0, .map (some 4543), .int .i64 0] true 0 46),
    (4558, .cells [.string ⟨#[109, 97, 105, 110]⟩, .bool false, .slice none 0 0, .int .i64 0, .slice (some ⟨1789, 0, none⟩) 2 2, .slice (some ⟨1992, 0, none⟩) 1 5, .slice (some ⟨3224, 0, none⟩) 4 12, .slice (some ⟨4588, 0, none⟩) 2 1, .slice (some ⟨4648, 0, none⟩) 4 14] true 0 88),
    (4588, .cells [.string ⟨#[112]⟩, .string ⟨#[113]⟩] false 0 9),
    (4648, .cells [.int .i64 1, .string ⟨#[112]⟩, .string ⟨#[120]⟩, .string ⟨#[]⟩, .int .i64 0, .int .i64 0, .string ⟨#[]⟩, .int .i64 0, .slice none 0 0, .slice none 0 0, .slice none 0 0, .slice none 0 0, .int .i64 1, .int .i64 0, .int .i64 4, .string ⟨#[112]⟩, .string ⟨#[112]⟩, .string ⟨#[]⟩, .int .i64 0, .int .i64 0, .string ⟨#[]⟩, .int .i64 0, .slice none 0 0, .slice none 0 0, .slice none 0 0, .slice none 0 0, .int .i64 2, .int .i64 0, .int .i64 3, .string ⟨#[113]⟩, .string ⟨#[112]⟩, .string ⟨#[]⟩, .int .i64 0, .int .i64 0, .string ⟨#[]⟩, .int .i64 0, .slice none 0 0, .slice none 0 0, .slice none 0 0, .slice none 0 0, .int .i64 3, .int .i64 0, .int .i64 8, .string ⟨#[]⟩, .string ⟨#[113]⟩, .string ⟨#[]⟩, .int .i64 0, .int .i64 0, .string ⟨#[]⟩, .int .i64 0, .slice none 0 0, .slice none 0 0, .slice none 0 0, .slice none 0 0, .int .i64 4, .int .i64 0] false 0 59),
    (4676, .cells [.int .i64 0, .int .i64 0, .int .i64 0, .string ⟨#[]⟩, .int .i64 0, .int .i64 0, .int .i64 0, .string ⟨#[]⟩] true 0 91),
    (4677, .cells [.pointer (some ⟨4558, 0, none⟩), .slice (some ⟨4676, 0, none⟩) 2 4, .slice (some ⟨4815, 0, none⟩) 1 1, .int .i64 0, .string ⟨#[]⟩] true 0 81),
    (4787, .cells [.int .i64 0, .int .i64 0, .int .i64 0, .string ⟨#[]⟩] true 0 91),
    (4790, .cells [.string ⟨#[109, 97, 105, 110, 37, 120]⟩, .int .i64 2, .string ⟨#[]⟩, .int .i64 0, .slice none 0 0, .string ⟨#[112]⟩, .slice (some ⟨4812, 0, none⟩) 1 1, .slice (some ⟨4787, 0, none⟩) 1 4, .bool true, .bool false] true 0 53),
    (4812, .cells [.int .i64 0] false 0 3),
    (4814, .cells [.pointer (some ⟨4790, 0, none⟩)] false 0 47),
    (4815, .cells [.int .i64 1] false 0 3),
    (4817, .cells [.pointer (some ⟨4677, 0, none⟩)] false 0 77)]
noncomputable def c2 : Cut := { f := 19, args := c2A, K := c2K, next := 3250, v := .tuple #[.pointer (some ⟨4545, 0, none⟩), .int .i64 0], K' := c2K2, next' := 4818 }
theorem c2_run : cutChk c2 (evC tab (drawD tab) [c1] 3000 (.call c2.f c2.args false none) (c2.H rt)) = true := by kernel_rfl
theorem c2_ok : CutOk prog tab rt c2 :=
  cut_ok rt_only (evC_met rt_only tab_ok (drawD_ok tab_ok) (l := [c1]) (by
    intro c hc
    simp only [List.mem_cons, List.mem_nil_iff, or_false] at hc
    rcases hc with rfl
    · exact c1_ok) 3000) (by kernel_rfl) (by kernel_rfl) c2_run
end Go.Proofs.Tryz
