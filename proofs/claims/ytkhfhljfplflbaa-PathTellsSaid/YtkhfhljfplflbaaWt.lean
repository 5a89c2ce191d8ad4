/-
  PathTells holds: a key's bits, a key with one turned, how many bits two share, and whether one is ahead, are the document's.
-/
import Derived.Test.YtkhfhljfplflbaaWo
import Derived.Test.YtkhfhljfplflbaaWs
namespace Go.Proofs.Ytkhfhljfplflbaa
open Bd Go.ChangeShapes Go.WideShapes Go.ChangeAt Go.RowKit

set_option maxRecDepth 100000 in
theorem tells_lifted (os : Os) (started : os.Started) (H : Type) (enc : TypeId × Value → H) :
    ReturnsInHanded {} Try.checked os 5 .any (Rows.pathTellsSpec.pre6 enc Try.prog Try.f5 Rows.pathTellsRow.domain false) (Rows.pathTellsSpec.post enc Try.prog Try.f5 false true false false) := by
  refine returnsInHanded_of_change (C := Try.checked) own started (by kernel_rfl) Try.func5
    (ChangeSpec.witness6 (enc := enc) (C := Try.checked) false ⟨#[], #[.agg (Array.replicate 32 (.int .u8 0)), .agg (Array.replicate 32 (.int .u8 0)), .int .i64 0], []⟩ 8 (by kernel_rfl) (by kernel_rfl) (by kernel_rfl) (by kernel_rfl)) ?_
  intro W base args ds gs before hval0 hW _ _
  have hval : ∀ (j : Nat) t v, Try.f5.params[j]? = some t → args[j]? = some v → Value.okWide Try.prog W .any base t v := hval0
  have hW0 : DataW.Whole enc Try.prog Try.f5.params.toList Rows.pathTellsSpec.vars false W args.toList ds gs before := hW
  obtain ⟨p, q, hA0, hV, rfl, hfz, hnd⟩ := hW
  have hA : DataW.TrodAll enc Try.prog W 0 (fun _ => true) true [23, 23, 3] args.toList ds p := hA0
  obtain ⟨v0, v1, v2, d0, d1, d2, p0, p1, p2, rfl, rfl, rfl, h0, h1, h2⟩ := trodAll_three hA
  obtain ⟨a, a1, a2, a3, a4⟩ := arg_key h0 (hval 0 23 v0 rfl rfl)
  obtain ⟨b, b1, b2, b3, b4⟩ := arg_key h1 (hval 1 23 v1 rfl rfl)
  obtain ⟨i, i3, i4, _⟩ := arg_int h2 (hval 2 3 v2 rfl rfl)
  refine (calls_true (F5_beadrolllaw04_PathTells_ok (tells_val a1 b1 a2 b2 i)) ⟨_, _, rfl, a3, a4, _, _, rfl, b3, b4, _, _, rfl, i3, i4, rfl⟩).mono fun e W' ⟨he, hb⟩ => ⟨_, he, ?_⟩
  obtain ⟨rfl, rfl⟩ := trodVars_none hV
  exact post_law laidOut (by intro t ht; rw [show Try.f5.params.toList = [23, 23, 3] from rfl] at ht; simp at ht; rcases ht with rfl | rfl <;> first | exact read23 | exact read3) rfl ret4 rfl hW0 ⟨rfl, rfl, rfl⟩ hb

theorem tells_holds : Rows.PathTellsSaid :=
  OpenClaim.holds_of_wide 5 Try.f5 rfl rfl rfl rfl rfl rfl rfl ⟨rfl, rfl, rfl, rfl, rfl⟩ rfl rfl rfl rfl rfl (by kernel_rfl) Try.func5 (by kernel_rfl)
    (of_decide_eq_true (by kernel_rfl)) (by unfold Func.isWrapper; rw [if_neg (by decide +kernel)]; exact ⟨rfl, rfl⟩)
    (fun os started H enc _ => tells_lifted os started H enc)
#print axioms tells_holds
end Go.Proofs.Ytkhfhljfplflbaa
