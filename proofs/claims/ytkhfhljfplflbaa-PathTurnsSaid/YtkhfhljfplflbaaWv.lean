/-
  PathTurns holds: a bit turned twice is as it was; turned once, the two share just the bits ahead of it; all bits together are the key.
-/
import Derived.Test.YtkhfhljfplflbaaWo
import Derived.Test.YtkhfhljfplflbaaWu
namespace Go.Proofs.Ytkhfhljfplflbaa
open Bd Go.ChangeShapes Go.WideShapes Go.ChangeAt Go.RowKit

set_option maxRecDepth 100000 in
theorem turns_lifted (os : Os) (started : os.Started) (H : Type) (enc : TypeId × Value → H) :
    ReturnsInHanded {} Try.checked os 6 .any (Rows.pathTurnsSpec.pre6 enc Try.prog Try.f6 Rows.pathTurnsRow.domain false) (Rows.pathTurnsSpec.post enc Try.prog Try.f6 false true false false) := by
  refine returnsInHanded_of_change (C := Try.checked) own started (by kernel_rfl) Try.func6
    (ChangeSpec.witness6 (enc := enc) (C := Try.checked) false ⟨#[], #[.agg (Array.replicate 32 (.int .u8 0)), .int .i64 0], []⟩ 8 (by kernel_rfl) (by kernel_rfl) (by kernel_rfl) (by kernel_rfl)) ?_
  intro W base args ds gs before hval0 hW _ _
  have hval : ∀ (j : Nat) t v, Try.f6.params[j]? = some t → args[j]? = some v → Value.okWide Try.prog W .any base t v := hval0
  have hW0 : DataW.Whole enc Try.prog Try.f6.params.toList Rows.pathTurnsSpec.vars false W args.toList ds gs before := hW
  obtain ⟨p, q, hA0, hV, rfl, hfz, hnd⟩ := hW
  have hA : DataW.TrodAll enc Try.prog W 0 (fun _ => true) true [23, 3] args.toList ds p := hA0
  obtain ⟨v0, v1, d0, d1, p0, p1, rfl, rfl, rfl, h0, h1⟩ := trodAll_two hA
  obtain ⟨a, a1, a2, a3, a4⟩ := arg_key h0 (hval 0 23 v0 rfl rfl)
  obtain ⟨i, i3, i4, _⟩ := arg_int h1 (hval 1 3 v1 rfl rfl)
  refine (calls_true (F6_beadrolllaw04_PathTurns_ok (turns_val alive_val a1 a2 i)) ⟨_, _, rfl, a3, a4, _, _, rfl, i3, i4, rfl⟩).mono fun e W' ⟨he, hb⟩ => ⟨_, he, ?_⟩
  obtain ⟨rfl, rfl⟩ := trodVars_none hV
  exact post_law laidOut (by intro t ht; rw [show Try.f6.params.toList = [23, 3] from rfl] at ht; simp at ht; rcases ht with rfl | rfl <;> first | exact read23 | exact read3) rfl ret4 rfl hW0 ⟨rfl, rfl, rfl⟩ hb

theorem turns_holds : Rows.PathTurnsSaid :=
  OpenClaim.holds_of_wide 6 Try.f6 rfl rfl rfl rfl rfl rfl rfl ⟨rfl, rfl, rfl, rfl, rfl⟩ rfl rfl rfl rfl rfl (by kernel_rfl) Try.func6 (by kernel_rfl)
    (of_decide_eq_true (by kernel_rfl)) (by unfold Func.isWrapper; rw [if_neg (by decide +kernel)]; exact ⟨rfl, rfl⟩)
    (fun os started H enc _ => turns_lifted os started H enc)
#print axioms turns_holds
end Go.Proofs.Ytkhfhljfplflbaa
