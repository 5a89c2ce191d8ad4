/-
  PoolNames holds, and its card.
-/
import Derived.Test.YtonfljoibcnlgaaDoorSv
import Derived.Test.YtonfljoibcnlgaaDoorPk
namespace Go.Proofs.YtonfljoibcnlgaaDoor
open Bd Go Go.ChangeShapes Go.WideShapes Go.ChangeAt Go.RowKit

set_option maxRecDepth 100000 in
theorem ponames_lifted (os : Os) (started : os.Started) (H : Type) (enc : TypeId × Value → H) :
    ReturnsInHanded {} Tryd.checked os 14 .any (fun w args => (Rows.poolNamesSpec.pre enc Tryd.prog Tryd.f14 [] false w args ∧ laidMetH Tryd.prog laidK w) ∧ sizedMet enc Tryd.prog Tryd.f14 (OpenSpec.ofChange Rows.poolNamesSpec) false w args)
      (Rows.poolNamesSpec.post enc Tryd.prog Tryd.f14 false true false false) := by
  refine returnsInHanded_of_change_and (C := Tryd.checked) (X := fun w _ => laidMetH Tryd.prog laidK w) (fun _ _ _ hh h => h.of_heap hh) own_knob started (by kernel_rfl) Tryd.func14
    (ChangeSpec.witness_shaped (enc := enc) (C := Tryd.checked) (os := os) (X := fun w _ => laidMetH Tryd.prog laidK w) false (World.doorLaid Tryd.prog 400 os) #[] 8 rfl (World.shaped_of_RefB (by kernel_rfl) (by kernel_rfl)) (by kernel_rfl) (by kernel_rfl) (by kernel_rfl) (door_met os _)) ?_
  intro W base args ds gs before hval0 hW _ _ hL _
  have hW0 : DataW.Whole enc Tryd.prog Tryd.f14.params.toList Rows.poolNamesSpec.vars false W args.toList ds gs before := hW
  obtain ⟨p, q, hA0, hV, rfl, hfz, hnd⟩ := hW
  have hA : DataW.TrodAll enc Tryd.prog W 0 (fun _ => true) true [] args.toList ds p := hA0
  obtain ⟨e1, rfl, rfl⟩ := trodAll_nil hA
  obtain rfl : args = #[] := by simpa using e1
  refine (calls_trueG (F14_beadrolllaw21_PoolNames_ok ponames_val) rfl (globs_of_laid hL)).mono fun e W' ⟨he, hb⟩ => ⟨_, he, ?_⟩
  obtain ⟨rfl, rfl⟩ := trodVars_none hV
  exact post_law laid_out (by intro t ht; rw [show Tryd.f14.params.toList = [] from rfl] at ht; simp at ht) rfl ud4 rfl hW0 ⟨rfl, rfl, rfl⟩ hb

theorem ponames_holds : Rows.PoolNamesSaid :=
  OpenClaim.holds_of_wide 14 Tryd.f14 rfl rfl rfl rfl rfl rfl rfl ⟨rfl, rfl, rfl, rfl, rfl⟩ rfl rfl rfl rfl rfl (by kernel_rfl) Tryd.func14 (by kernel_rfl)
    (of_decide_eq_true (by kernel_rfl)) (by unfold Func.isWrapper; first | (rw [if_pos (by decide +kernel)]; kernel_rfl) | (rw [if_neg (by decide +kernel)]; exact ⟨rfl, rfl⟩))
    (fun os started H enc _ => ponames_lifted os started H enc)

theorem ponames_card : Rows.PoolNamesCardSaid :=
  Claim7.holds_tied_plain_at .later [] [.data] true (true, "83b0ba3b111eb12170a7512c411ea14f425a1414bdf8596a2468d530049401d5") false
    ponames_holds (fun _ h => by cases h) (by kernel_rfl) (fun _ h => by cases h) poolNames_row_tie rfl ⟨rfl, rfl⟩ (by kernel_rfl) rfl
    (fun f fn hf hfn => by
      obtain rfl : f = 14 := Option.some.inj ((show Tryd.prog.funcNamed "beadroll/beadrolllaw21.PoolNames" = some 14 by kernel_rfl).symm.trans hf) |>.symm
      obtain rfl : fn = Tryd.f14 := (Option.some.inj (Tryd.func14.symm.trans hfn)).symm
      exact ⟨by kernel_rfl, fun j t ht => by
        rw [show Tryd.f14.params = #[] from rfl] at ht
        simp at ht⟩)
    (by kernel_rfl)
#print axioms ponames_card
end Go.Proofs.YtonfljoibcnlgaaDoor
