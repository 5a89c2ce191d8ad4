/-
  PoolAny holds, and its card.
-/
import Derived.Test.YtonfljoibcnlgaaDoorVc
import Derived.Test.YtonfljoibcnlgaaDoorTe
namespace Go.Proofs.YtonfljoibcnlgaaDoor
open Bd Go Go.ChangeShapes Go.WideShapes Go.ChangeAt Go.RowKit

set_option maxRecDepth 100000 in
theorem poany_lifted (os : Os) (started : os.Started) (H : Type) (enc : TypeId × Value → H) :
    ReturnsInHanded {} Tryd.checked os 12 .any (fun w args => (Rows.poolAnySpec.pre enc Tryd.prog Tryd.f12 [] false w args ∧ laidMetH Tryd.prog laidK w) ∧ sizedMet enc Tryd.prog Tryd.f12 (OpenSpec.ofChange Rows.poolAnySpec) false w args)
      (Rows.poolAnySpec.post enc Tryd.prog Tryd.f12 false true false false) := by
  refine returnsInHanded_of_change_and (C := Tryd.checked) (X := fun w _ => laidMetH Tryd.prog laidK w) (fun _ _ _ hh h => h.of_heap hh) own_knob started (by kernel_rfl) Tryd.func12
    (ChangeSpec.witness_shaped (enc := enc) (C := Tryd.checked) (os := os) (X := fun w _ => laidMetH Tryd.prog laidK w) false (World.doorLaid Tryd.prog 400 os) #[zTree, .slice none 0 0, .int .i64 0] 8 rfl (World.shaped_of_RefB (by kernel_rfl) (by kernel_rfl)) (by kernel_rfl) (by kernel_rfl) (by kernel_rfl) (door_met os _)) ?_
  intro W base args ds gs before hval0 hW _ _ hL _
  have hval : ∀ (j : Nat) t v, Tryd.f12.params[j]? = some t → args[j]? = some v → Value.okWide Tryd.prog W .any base t v := hval0
  have hW0 : DataW.Whole enc Tryd.prog Tryd.f12.params.toList Rows.poolAnySpec.vars false W args.toList ds gs before := hW
  obtain ⟨p, q, hA0, hV, rfl, hfz, hnd⟩ := hW
  have hA : DataW.TrodAll enc Tryd.prog W 0 (fun _ => true) true [90, 24, 3] args.toList ds p := hA0
  obtain ⟨v0, v1, v2, d0, d1, d2, p0, p1, p2, rfl, rfl, rfl, h0, h1, h2⟩ := trodAll_three hA
  obtain ⟨t, t1, t2⟩ := ra_of in_90 h0
  obtain ⟨l, l1, l2⟩ := ra_of in_24d h1
  obtain ⟨n, n1, n2⟩ := ra_of (in_int ud3') h2
  have n3 : aggV v2 = false := by
    obtain ⟨k, rfl⟩ := okWide_int ud3' (hval 2 3 v2 rfl rfl)
    rfl
  refine (calls_trueG (F12_beadrolllaw21_PoolAny_ok (poany_val t1 (fun x hx => (l1 x hx).ok) n)) ⟨_, _, rfl, t2, agg_st ud90 (hval 0 90 v0 rfl rfl), _, _, rfl, l2, agg_sl ud24 (hval 1 24 v1 rfl rfl), _, _, rfl, n2, n3, rfl⟩ (globs_of_laid hL)).mono fun e W' ⟨he, hb⟩ => ⟨_, he, ?_⟩
  obtain ⟨rfl, rfl⟩ := trodVars_none hV
  exact post_law laid_out (by intro t ht; rw [show Tryd.f12.params.toList = [90, 24, 3] from rfl] at ht; simp at ht; rcases ht with rfl | rfl | rfl; exact read90; exact read24; exact read3) rfl ud4 rfl hW0 ⟨rfl, rfl, rfl⟩ hb

theorem poany_holds : Rows.PoolAnySaid :=
  OpenClaim.holds_of_wide 12 Tryd.f12 rfl rfl rfl rfl rfl rfl rfl ⟨rfl, rfl, rfl, rfl, rfl⟩ rfl rfl rfl rfl rfl (by kernel_rfl) Tryd.func12 (by kernel_rfl)
    (of_decide_eq_true (by kernel_rfl)) (by unfold Func.isWrapper; first | (rw [if_pos (by decide +kernel)]; kernel_rfl) | (rw [if_neg (by decide +kernel)]; exact ⟨rfl, rfl⟩))
    (fun os started H enc _ => poany_lifted os started H enc)

theorem poany_card : Rows.PoolAnyCardSaid :=
  Claim7.holds_tied_plain_at .later [] [.data] true (true, "83b0ba3b111eb12170a7512c411ea14f425a1414bdf8596a2468d530049401d5") false
    poany_holds (fun _ h => by cases h) (by kernel_rfl) (fun _ h => by cases h) poolAny_row_tie rfl ⟨rfl, rfl⟩ (by kernel_rfl) rfl
    (fun f fn hf hfn => by
      obtain rfl : f = 12 := Option.some.inj ((show Tryd.prog.funcNamed "beadroll/beadrolllaw21.PoolAny" = some 12 by kernel_rfl).symm.trans hf) |>.symm
      obtain rfl : fn = Tryd.f12 := (Option.some.inj (Tryd.func12.symm.trans hfn)).symm
      exact ⟨by kernel_rfl, fun j t ht => by
        rw [show Tryd.f12.params = #[90, 24, 3] from rfl] at ht
        have hm : t ∈ [90, 24, 3] := by simpa using Array.mem_of_getElem? ht
        have hall : ([90, 24, 3].all fun u => !Tryd.prog.wantsStandIn u) = true := by kernel_rfl
        exact (show Tryd.prog.wantsStandIn t = false by simpa using List.all_eq_true.1 hall t hm)⟩)
    (by kernel_rfl)
#print axioms poany_card
end Go.Proofs.YtonfljoibcnlgaaDoor
