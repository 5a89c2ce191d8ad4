/-
  QueueRuns holds, and its card.
-/
import Derived.Test.YtonfljoibcnlgaaDoorPf
import Derived.Test.YtonfljoibcnlgaaDoorPg
import Derived.Test.YtonfljoibcnlgaaDoorXz
namespace Go.Proofs.YtonfljoibcnlgaaDoor
open Bd Go Go.ChangeShapes Go.WideShapes Go.ChangeAt Go.RowKit

theorem in_26 {H : Type} {enc : TypeId × Value → H} {W : World} : Reads enc Tryd.prog W 26 eGLine LineOk := by
  intro fuel cs x h
  have hl := (st_field ud26 h).1
  rw [c26] at hl
  obtain ⟨a0, r0, k0⟩ := st_fld ud26 h 0 f26_0 c23 in_23
  obtain ⟨a1, r1, k1⟩ := st_fld ud26 h 1 f26_1 c24 in_24
  refine ⟨⟨a0, a1⟩, ?_, ⟨k0, k1⟩⟩
  simp only [eGLine, Rep]
  refine repAll_mk _ _ (by rw [hl]; rfl) fun i d hd => ?_
  match i, hd with
  | 0, hd => cases hd; exact r0
  | 1, hd => cases hd; exact r1
  | n + 2, hd => simp at hd

theorem read26 : Tryd.prog.readableRec 26 = true ∧ 26 < Tryd.prog.types.size := ⟨by kernel_rfl, of_decide_eq_true (by kernel_rfl)⟩
theorem read27 : Tryd.prog.readableRec 27 = true ∧ 27 < Tryd.prog.types.size := ⟨by kernel_rfl, of_decide_eq_true (by kernel_rfl)⟩

set_option maxRecDepth 100000 in
theorem runs_lifted (os : Os) (started : os.Started) (H : Type) (enc : TypeId × Value → H) :
    ReturnsInHanded {} Tryd.checked os 3 .any (fun w args => (Rows.queueRunsSpec.pre enc Tryd.prog Tryd.f3 [] false w args ∧ laidMetH Tryd.prog laidK w) ∧ sizedMet enc Tryd.prog Tryd.f3 (OpenSpec.ofChange Rows.queueRunsSpec) false w args)
      (Rows.queueRunsSpec.post enc Tryd.prog Tryd.f3 false true false false) := by
  refine returnsInHanded_of_change_and (C := Tryd.checked) (X := fun w _ => laidMetH Tryd.prog laidK w) (fun _ _ _ hh h => h.of_heap hh) own_knob started (by kernel_rfl) Tryd.func3
    (ChangeSpec.witness_shaped (enc := enc) (C := Tryd.checked) (os := os) (X := fun w _ => laidMetH Tryd.prog laidK w) false (World.doorLaid Tryd.prog 400 os) #[.agg ((Array.replicate 32 (.int .u8 0)).push (.slice none 0 0)), .int .u64 0] 8 rfl (World.shaped_of_RefB (by kernel_rfl) (by kernel_rfl)) (by kernel_rfl) (by kernel_rfl) (by kernel_rfl) (door_met os _)) ?_
  intro W base args ds gs before hval0 hW _ _ hL _
  have hval : ∀ (j : Nat) t v, Tryd.f3.params[j]? = some t → args[j]? = some v → Value.okWide Tryd.prog W .any base t v := hval0
  have hW0 : DataW.Whole enc Tryd.prog Tryd.f3.params.toList Rows.queueRunsSpec.vars false W args.toList ds gs before := hW
  obtain ⟨p, q, hA0, hV, rfl, hfz, hnd⟩ := hW
  have hA : DataW.TrodAll enc Tryd.prog W 0 (fun _ => true) true [26, 27] args.toList ds p := hA0
  obtain ⟨v0, v1, d0, d1, p0, p1, rfl, rfl, rfl, h0, h1⟩ := trodAll_two hA
  obtain ⟨l, l1, l2⟩ := ra_of in_26 h0
  obtain ⟨n, n1, n2⟩ := ra_of in_27 h1
  have n3 : aggV v1 = false := by
    obtain ⟨k, rfl⟩ := okWide_int ud27 (hval 1 27 v1 rfl rfl)
    rfl
  refine (calls_trueG (F3_beadrolllaw19_QueueRuns_ok (runs_val l1 n1)) ⟨_, _, rfl, l2, agg_st ud26 (hval 0 26 v0 rfl rfl), _, _, rfl, n2, n3, rfl⟩ (globs_of_laid hL)).mono fun e W' ⟨he, hb⟩ => ⟨_, he, ?_⟩
  obtain ⟨rfl, rfl⟩ := trodVars_none hV
  exact post_law laid_out (by intro t ht; rw [show Tryd.f3.params.toList = [26, 27] from rfl] at ht; simp at ht; rcases ht with rfl | rfl; exact read26; exact read27) rfl ud4 rfl hW0 ⟨rfl, rfl, rfl⟩ hb

theorem runs_holds : Rows.QueueRunsSaid :=
  OpenClaim.holds_of_wide 3 Tryd.f3 rfl rfl rfl rfl rfl rfl rfl ⟨rfl, rfl, rfl, rfl, rfl⟩ rfl rfl rfl rfl rfl (by kernel_rfl) Tryd.func3 (by kernel_rfl)
    (of_decide_eq_true (by kernel_rfl)) (by unfold Func.isWrapper; first | (rw [if_pos (by decide +kernel)]; kernel_rfl) | (rw [if_neg (by decide +kernel)]; exact ⟨rfl, rfl⟩))
    (fun os started H enc _ => runs_lifted os started H enc)

theorem runs_card : Rows.QueueRunsCardSaid :=
  Claim7.holds_tied_plain_at .later [] [.data] true (true, "83b0ba3b111eb12170a7512c411ea14f425a1414bdf8596a2468d530049401d5") false
    runs_holds (fun _ h => by cases h) (by kernel_rfl) (fun _ h => by cases h) queueRuns_row_tie rfl ⟨rfl, rfl⟩ (by kernel_rfl) rfl
    (fun f fn hf hfn => by
      obtain rfl : f = 3 := Option.some.inj ((show Tryd.prog.funcNamed "beadroll/beadrolllaw19.QueueRuns" = some 3 by kernel_rfl).symm.trans hf) |>.symm
      obtain rfl : fn = Tryd.f3 := (Option.some.inj (Tryd.func3.symm.trans hfn)).symm
      exact ⟨by kernel_rfl, fun j t ht => by
        rw [show Tryd.f3.params = #[26, 27] from rfl] at ht
        have hm : t ∈ [26, 27] := by simpa using Array.mem_of_getElem? ht
        have hall : ([26, 27].all fun u => !Tryd.prog.wantsStandIn u) = true := by kernel_rfl
        exact (show Tryd.prog.wantsStandIn t = false by simpa using List.all_eq_true.1 hall t hm)⟩)
    (by kernel_rfl)
#print axioms runs_card
end Go.Proofs.YtonfljoibcnlgaaDoor
