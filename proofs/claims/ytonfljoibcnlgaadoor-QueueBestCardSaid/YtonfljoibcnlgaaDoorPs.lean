/-
  QueueBest holds, and its card.
-/
import Derived.Test.YtonfljoibcnlgaaDoorPr
import Derived.Test.YtonfljoibcnlgaaDoorPg
namespace Go.Proofs.YtonfljoibcnlgaaDoor
open Bd Go Go.ChangeShapes Go.WideShapes Go.ChangeAt Go.RowKit

/-- the zero transaction -/
def zTx : Value := .agg (Array.replicate 64 (.int .u8 0) ++ #[.int .u64 0, .int .u64 0, .int .u64 0] ++ Array.replicate 32 (.int .u8 0))

set_option maxRecDepth 100000 in
theorem best_lifted (os : Os) (started : os.Started) (H : Type) (enc : TypeId × Value → H) :
    ReturnsInHanded {} Tryd.checked os 6 .any (fun w args => (Rows.queueBestSpec.pre enc Tryd.prog Tryd.f6 [] false w args ∧ laidMetH Tryd.prog laidK w) ∧ sizedMet enc Tryd.prog Tryd.f6 (OpenSpec.ofChange Rows.queueBestSpec) false w args)
      (Rows.queueBestSpec.post enc Tryd.prog Tryd.f6 false true false false) := by
  refine returnsInHanded_of_change_and (C := Tryd.checked) (X := fun w _ => laidMetH Tryd.prog laidK w) (fun _ _ _ hh h => h.of_heap hh) own_knob started (by kernel_rfl) Tryd.func6
    (ChangeSpec.witness_shaped (enc := enc) (C := Tryd.checked) (os := os) (X := fun w _ => laidMetH Tryd.prog laidK w) false (World.doorLaid Tryd.prog 400 os) #[.agg ((Array.replicate 32 (.int .u8 0)).push (.slice none 0 0)), zTx, zTx] 8 rfl (World.shaped_of_RefB (by kernel_rfl) (by kernel_rfl)) (by kernel_rfl) (by kernel_rfl) (by kernel_rfl) (door_met os _)) ?_
  intro W base args ds gs before hval0 hW _ _ hL _
  have hval : ∀ (j : Nat) t v, Tryd.f6.params[j]? = some t → args[j]? = some v → Value.okWide Tryd.prog W .any base t v := hval0
  have hW0 : DataW.Whole enc Tryd.prog Tryd.f6.params.toList Rows.queueBestSpec.vars false W args.toList ds gs before := hW
  obtain ⟨p, q, hA0, hV, rfl, hfz, hnd⟩ := hW
  have hA : DataW.TrodAll enc Tryd.prog W 0 (fun _ => true) true [26, 36, 36] args.toList ds p := hA0
  obtain ⟨v0, v1, v2, d0, d1, d2, p0, p1, p2, rfl, rfl, rfl, h0, h1, h2⟩ := trodAll_three hA
  obtain ⟨l, l1, l2⟩ := ra_of in_26 h0
  obtain ⟨x, x1, x2⟩ := ra_of in_36 h1
  obtain ⟨y, y1, y2⟩ := ra_of in_36 h2
  refine (calls_trueG (F6_beadrolllaw19_QueueBest_ok (best_val l1 x1 y1)) ⟨_, _, rfl, l2, agg_st ud26 (hval 0 26 v0 rfl rfl), _, _, rfl, x2, agg_st ud36 (hval 1 36 v1 rfl rfl), _, _, rfl, y2, agg_st ud36 (hval 2 36 v2 rfl rfl), rfl⟩ (globs_of_laid hL)).mono fun e W' ⟨he, hb⟩ => ⟨_, he, ?_⟩
  obtain ⟨rfl, rfl⟩ := trodVars_none hV
  exact post_law laid_out (by intro t ht; rw [show Tryd.f6.params.toList = [26, 36, 36] from rfl] at ht; simp at ht; rcases ht with rfl | rfl; exact read26; exact read36) rfl ud4 rfl hW0 ⟨rfl, rfl, rfl⟩ hb

theorem best_holds : Rows.QueueBestSaid :=
  OpenClaim.holds_of_wide 6 Tryd.f6 rfl rfl rfl rfl rfl rfl rfl ⟨rfl, rfl, rfl, rfl, rfl⟩ rfl rfl rfl rfl rfl (by kernel_rfl) Tryd.func6 (by kernel_rfl)
    (of_decide_eq_true (by kernel_rfl)) (by unfold Func.isWrapper; first | (rw [if_pos (by decide +kernel)]; kernel_rfl) | (rw [if_neg (by decide +kernel)]; exact ⟨rfl, rfl⟩))
    (fun os started H enc _ => best_lifted os started H enc)

theorem best_card : Rows.QueueBestCardSaid :=
  Claim7.holds_tied_plain_at .later [] [.data] true (true, "83b0ba3b111eb12170a7512c411ea14f425a1414bdf8596a2468d530049401d5") false
    best_holds (fun _ h => by cases h) (by kernel_rfl) (fun _ h => by cases h) queueBest_row_tie rfl ⟨rfl, rfl⟩ (by kernel_rfl) rfl
    (fun f fn hf hfn => by
      obtain rfl : f = 6 := Option.some.inj ((show Tryd.prog.funcNamed "beadroll/beadrolllaw19.QueueBest" = some 6 by kernel_rfl).symm.trans hf) |>.symm
      obtain rfl : fn = Tryd.f6 := (Option.some.inj (Tryd.func6.symm.trans hfn)).symm
      exact ⟨by kernel_rfl, fun j t ht => by
        rw [show Tryd.f6.params = #[26, 36, 36] from rfl] at ht
        have hm : t ∈ [26, 36, 36] := by simpa using Array.mem_of_getElem? ht
        have hall : ([26, 36, 36].all fun u => !Tryd.prog.wantsStandIn u) = true := by kernel_rfl
        exact (show Tryd.prog.wantsStandIn t = false by simpa using List.all_eq_true.1 hall t hm)⟩)
    (by kernel_rfl)
#print axioms best_card
end Go.Proofs.YtonfljoibcnlgaaDoor
