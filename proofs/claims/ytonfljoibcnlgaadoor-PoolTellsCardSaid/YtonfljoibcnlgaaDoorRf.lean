/-
  PoolTells holds, and its card.
-/
import Derived.Test.YtonfljoibcnlgaaDoorRe
import Derived.Test.YtonfljoibcnlgaaDoorQf
import Derived.Carry
namespace Go.Proofs.YtonfljoibcnlgaaDoor
open Bd Go Go.ChangeShapes Go.WideShapes Go.ChangeAt Go.RowKit

theorem ud41 : Tryd.prog.underlying 41 = some (.slice 74) := by kernel_rfl
theorem in_41d {H : Type} {enc : TypeId × Value → H} {W : World} : Reads enc Tryd.prog W 41 eL41 PoD := in_slice ud41 c74 (by decide) in_74d
theorem read41 : Tryd.prog.readableRec 41 = true ∧ 41 < Tryd.prog.types.size := ⟨by kernel_rfl, of_decide_eq_true (by kernel_rfl)⟩
theorem read23 : Tryd.prog.readableRec 23 = true ∧ 23 < Tryd.prog.types.size := ⟨by kernel_rfl, of_decide_eq_true (by kernel_rfl)⟩

set_option maxRecDepth 100000 in
theorem tells_lifted (os : Os) (started : os.Started) (H : Type) (enc : TypeId × Value → H) :
    ReturnsInHanded {} Tryd.checked os 4 .any (fun w args => (Rows.poolTellsSpec.pre enc Tryd.prog Tryd.f4 [] false w args ∧ laidMetH Tryd.prog laidK w) ∧ sizedMet enc Tryd.prog Tryd.f4 (OpenSpec.ofChange Rows.poolTellsSpec) false w args)
      (Rows.poolTellsSpec.post enc Tryd.prog Tryd.f4 false true false false) := by
  refine returnsInHanded_of_change_and (C := Tryd.checked) (X := fun w _ => laidMetH Tryd.prog laidK w) (fun _ _ _ hh h => h.of_heap hh) own_knob started (by kernel_rfl) Tryd.func4
    (ChangeSpec.witness_shaped (enc := enc) (C := Tryd.checked) (os := os) (X := fun w _ => laidMetH Tryd.prog laidK w) false (World.doorLaid Tryd.prog 400 os) #[.slice none 0 0, .slice none 0 0, .agg (Array.replicate 32 (.int .u8 0)), .int .i64 0] 8 rfl (World.shaped_of_RefB (by kernel_rfl) (by kernel_rfl)) (by kernel_rfl) (by kernel_rfl) (by kernel_rfl) (door_met os _)) ?_
  intro W base args ds gs before hval0 hW _ _ hL _
  have hval : ∀ (j : Nat) t v, Tryd.f4.params[j]? = some t → args[j]? = some v → Value.okWide Tryd.prog W .any base t v := hval0
  have hW0 : DataW.Whole enc Tryd.prog Tryd.f4.params.toList Rows.poolTellsSpec.vars false W args.toList ds gs before := hW
  obtain ⟨p, q, hA0, hV, rfl, hfz, hnd⟩ := hW
  have hA : DataW.TrodAll enc Tryd.prog W 0 (fun _ => true) true [41, 41, 23, 3] args.toList ds p := hA0
  obtain ⟨v0, v1, v2, v3, d0, d1, d2, d3, p0, p1, p2, p3, rfl, rfl, rfl, h0, h1, h2, h3⟩ := trodAll_four hA
  obtain ⟨s, s1, s2⟩ := ra_of in_41d h0
  obtain ⟨o, o1, o2⟩ := ra_of in_41d h1
  obtain ⟨k, k1, k2⟩ := ra_of in_23d h2
  obtain ⟨c, c1, c2⟩ := ra_of (in_int ud3') h3
  have s3 : aggV v0 = false := agg_sl ud41 (hval 0 41 v0 rfl rfl)
  have o3 : aggV v1 = false := agg_sl ud41 (hval 1 41 v1 rfl rfl)
  have k3 : aggV v2 = true := agg_arr ud23' (hval 2 23 v2 rfl rfl)
  have c3 : aggV v3 = false := by
    obtain ⟨k, rfl⟩ := okWide_int ud3' (hval 3 3 v3 rfl rfl)
    rfl
  refine (calls_trueG (F4_beadrolllaw21_PoolTells_ok (tells_val s1 k k1.1 c)) ⟨_, _, rfl, s2, s3, _, _, rfl, o2, o3, _, _, rfl, k2, k3, _, _, rfl, c2, c3, rfl⟩ (globs_of_laid hL)).mono fun e W' ⟨he, hb⟩ => ⟨_, he, ?_⟩
  obtain ⟨rfl, rfl⟩ := trodVars_none hV
  exact post_law laid_out (by intro t ht; rw [show Tryd.f4.params.toList = [41, 41, 23, 3] from rfl] at ht; simp at ht; rcases ht with rfl | rfl | rfl; exact read41; exact read23; exact read3) rfl ud4 rfl hW0 ⟨rfl, rfl, rfl⟩ hb

theorem tells_holds : Rows.PoolTellsSaid :=
  OpenClaim.holds_of_wide 4 Tryd.f4 rfl rfl rfl rfl rfl rfl rfl ⟨rfl, rfl, rfl, rfl, rfl⟩ rfl rfl rfl rfl rfl (by kernel_rfl) Tryd.func4 (by kernel_rfl)
    (of_decide_eq_true (by kernel_rfl)) (by unfold Func.isWrapper; first | (rw [if_pos (by decide +kernel)]; kernel_rfl) | (rw [if_neg (by decide +kernel)]; exact ⟨rfl, rfl⟩))
    (fun os started H enc _ => tells_lifted os started H enc)

theorem tells_card : Rows.PoolTellsCardSaid :=
  Claim7.holds_tied_plain_at .later [] [.data] true (true, "83b0ba3b111eb12170a7512c411ea14f425a1414bdf8596a2468d530049401d5") false
    tells_holds (fun _ h => by cases h) (by kernel_rfl) (fun _ h => by cases h) poolTells_row_tie rfl ⟨rfl, rfl⟩ (by kernel_rfl) rfl
    (fun f fn hf hfn => by
      obtain rfl : f = 4 := Option.some.inj ((show Tryd.prog.funcNamed "beadroll/beadrolllaw21.PoolTells" = some 4 by kernel_rfl).symm.trans hf) |>.symm
      obtain rfl : fn = Tryd.f4 := (Option.some.inj (Tryd.func4.symm.trans hfn)).symm
      exact ⟨by kernel_rfl, fun j t ht => by
        rw [show Tryd.f4.params = #[41, 41, 23, 3] from rfl] at ht
        have hm : t ∈ [41, 41, 23, 3] := by simpa using Array.mem_of_getElem? ht
        have hall : ([41, 41, 23, 3].all fun u => !Tryd.prog.wantsStandIn u) = true := by kernel_rfl
        exact (show Tryd.prog.wantsStandIn t = false by simpa using List.all_eq_true.1 hall t hm)⟩)
    (by kernel_rfl)
#print axioms tells_card
end Go.Proofs.YtonfljoibcnlgaaDoor
