/- A call whose answer is known. -/
import Derived.Test.YtnlacfnniflkdaaGreatDoorK5

namespace Go.Proofs.Tryz
open Go.WeftN
set_option maxRecDepth 100000
noncomputable def c1A : List Value := [.string ⟨#[109, 111, 100, 117, 108, 101, 32, 109, 59, 32, 102, 110, 32, 109, 97, 105, 110, 40, 41, 32, 123, 32, 118, 97, 114, 32, 112, 32, 112, 116, 114, 59, 32, 118, 97, 114, 32, 113, 32, 112, 116, 114, 59, 32, 111, 98, 106, 32, 120, 32, 112, 116, 114, 59, 32, 112, 32, 61, 32, 97, 100, 100, 114, 32, 120, 59, 32, 115, 116, 111, 114, 101, 32, 112, 32, 112, 59, 32, 113, 32, 61, 32, 108, 111, 97, 100, 32, 112, 59, 32, 102, 114, 101, 101, 32, 113, 59, 32, 125]⟩]
noncomputable def c1K : List (Nat × AObj) := [
    ]
noncomputable def c1K2 : List (Nat × AObj) := [
    (1789, .cells [.string ⟨#[112]⟩, .int .i64 2, .string ⟨#[113]⟩, .int .i64 2] false 0 130),
    (1992, .cells [.string ⟨#[120]⟩, .int .i64 2, .string ⟨#[]⟩, .int .i64 0, .slice none 0 0] false 0 177),
    (3224, .cells [.int .i64 1, .string ⟨#[112]⟩, .string ⟨#[120]⟩, .string ⟨#[]⟩, .int .i64 0, .int .i64 0, .string ⟨#[]⟩, .int .i64 0, .slice none 0 0, .slice none 0 0, .slice none 0 0, .slice none 0 0, .int .i64 4, .string ⟨#[112]⟩, .string ⟨#[112]⟩, .string ⟨#[]⟩, .int .i64 0, .int .i64 0, .string ⟨#[]⟩, .int .i64 0, .slice none 0 0, .slice none 0 0, .slice none 0 0, .slice none 0 0, .int .i64 3, .string ⟨#[113]⟩, .string ⟨#[112]⟩, .string ⟨#[]⟩, .int .i64 0, .int .i64 0, .string ⟨#[]⟩, .int .i64 0, .slice none 0 0, .slice none 0 0, .slice none 0 0, .slice none 0 0, .int .i64 8, .string ⟨#[]⟩, .string ⟨#[113]⟩, .string ⟨#[]⟩, .int .i64 0, .int .i64 0, .string ⟨#[]⟩, .int .i64 0, .slice none 0 0, .slice none 0 0, .slice none 0 0, .slice none 0 0] false 0 57),
    (3247, .cells [.string ⟨#[109, 97, 105, 110]⟩, .bool false, .slice none 0 0, .int .i64 0, .slice (some ⟨1789, 0, none⟩) 2 2, .slice (some ⟨1992, 0, none⟩) 1 5, .slice (some ⟨3224, 0, none⟩) 4 12] false 0 85)]
noncomputable def c1 : Cut := { f := 18, args := c1A, K := c1K, next := 102, v := .tuple #[.agg #[.string ⟨#[109]⟩, .slice none 0 0, .slice none 0 0, .slice none 0 0, .slice (some ⟨3247, 0, none⟩) 1 7], .int .i64 0, .int .i64 0], K' := c1K2, next' := 3248 }
theorem c1_run : cutChk c1 (evC tab (drawD tab) [] 3000 (.call c1.f c1.args false none) (c1.H rt)) = true := by kernel_rfl
theorem c1_ok : CutOk prog tab rt c1 :=
  cut_ok rt_only (evC_met rt_only tab_ok (drawD_ok tab_ok) (l := []) (by simp) 3000) (by kernel_rfl) (by kernel_rfl) c1_run
end Go.Proofs.Tryz
