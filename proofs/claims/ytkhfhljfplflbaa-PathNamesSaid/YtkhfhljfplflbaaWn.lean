/-
  PathNames holds: the walk of the law, joined with its value.
-/
import Derived.Test.YtkhfhljfplflbaaBp
import Derived.Test.YtkhfhljfplflbaaWc
namespace Go.Proofs.Ytkhfhljfplflbaa
open Bd Go.ChangeShapes Go.WideShapes Go.ChangeAt Go.RowKit

theorem own : ownKnob Try.prog.godebug = none := by kernel_rfl
theorem laidOut : laidOutB Try.prog = true := by kernel_rfl
theorem ret4 : Try.prog.underlying 4 = some .bool := by kernel_rfl

theorem names_value : F4_beadrolllaw04_PathNames 300 = some true := by kernel_rfl

set_option maxRecDepth 100000 in
theorem names_lifted (os : Os) (started : os.Started) (H : Type) (enc : TypeId × Value → H) :
    ReturnsInHanded {} Try.checked os 4 .any (Rows.pathNamesSpec.pre6 enc Try.prog Try.f4 Rows.pathNamesRow.domain false) (Rows.pathNamesSpec.post enc Try.prog Try.f4 false true false false) := by
  refine returnsInHanded_of_change (C := Try.checked) own started (by kernel_rfl) Try.func4
    (ChangeSpec.witness6 (enc := enc) (C := Try.checked) false ⟨#[], #[], []⟩ 8 (by kernel_rfl) (by kernel_rfl) (by kernel_rfl) (by kernel_rfl)) ?_
  intro W base args ds gs before hval hW hcnd _
  have hW0 : DataW.Whole enc Try.prog Try.f4.params.toList Rows.pathNamesSpec.vars false W args.toList ds gs before := hW
  obtain ⟨p, q, hA0, hV, rfl, hfz, hnd⟩ := hW
  have hA : DataW.TrodAll enc Try.prog W 0 (fun _ => true) true [] args.toList ds p := hA0
  obtain ⟨rfl, rfl, rfl⟩ := trodAll_none hA
  refine (calls_true (F4_beadrolllaw04_PathNames_ok names_value) (by simp [RAc])).mono fun e W' ⟨he, hb⟩ => ⟨_, he, ?_⟩
  obtain ⟨rfl, rfl⟩ := trodVars_none hV
  exact post_law laidOut (by intro t ht; simp [Try.params4] at ht) rfl ret4 rfl hW0 ⟨rfl, rfl, rfl⟩ hb

theorem names_holds : Rows.PathNamesSaid :=
  OpenClaim.holds_of_wide 4 Try.f4 rfl rfl rfl rfl rfl rfl rfl ⟨rfl, rfl, rfl, rfl, rfl⟩ rfl rfl rfl rfl rfl (by kernel_rfl) Try.func4 (by kernel_rfl)
    (of_decide_eq_true (by kernel_rfl)) (by unfold Func.isWrapper; rw [if_neg (by decide +kernel)]; exact ⟨rfl, rfl⟩)
    (fun os started H enc _ => names_lifted os started H enc)
#print axioms names_holds
end Go.Proofs.Ytkhfhljfplflbaa
