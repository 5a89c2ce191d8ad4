import Derived.Test.YtonfljoibcnlgaaGreatDoorUb
import Derived.Test.YtonfljoibcnlgaaGreatDoorTe
namespace Go.Proofs.YtonfljoibcnlgaaGreatDoor
open Bd Go Go.ChangeShapes Go.WideShapes Go.ChangeAt Go.RowKit
theorem ud41 : Tryz.prog.underlying 45 = some (.slice 24) := by kernel_rfl
theorem in_41d {H : Type} {enc : TypeId × Value → H} {W : World} : Reads enc Tryz.prog W 45 eL45 (fun p : List GShard => ∀ s ∈ p, ShD s.Lines) := in_slice ud41 c74 (by decide) in_74d
theorem read41 : Tryz.prog.readableRec 45 = true ∧ 45 < Tryz.prog.types.size := ⟨by kernel_rfl, of_decide_eq_true (by kernel_rfl)⟩
theorem trodAll_six {H : Type} {enc : TypeId × Value → H} {P : Program} {w : World} {base : Nat} {spare : Nat → Bool} {held : Bool} {t0 t1 t2 t3 t4 t5 : TypeId} {args : Array Value} {ds : List (DataW H)} {ps : List MemPlace} (h : DataW.TrodAll enc P w base spare held [t0, t1, t2, t3, t4, t5] args.toList ds ps) :
    ∃ v0 v1 v2 v3 v4 v5 d0 d1 d2 d3 d4 d5 p0 p1 p2 p3 p4 p5, args = #[v0, v1, v2, v3, v4, v5] ∧ ds = [d0, d1, d2, d3, d4, d5] ∧ ps = p0 ++ p1 ++ p2 ++ p3 ++ p4 ++ p5 ∧ DataW.Trod enc P w base spare held t0 v0 d0 p0 ∧ DataW.Trod enc P w base spare held t1 v1 d1 p1 ∧
      DataW.Trod enc P w base spare held t2 v2 d2 p2 ∧ DataW.Trod enc P w base spare held t3 v3 d3 p3 ∧ DataW.Trod enc P w base spare held t4 v4 d4 p4 ∧ DataW.Trod enc P w base spare held t5 v5 d5 p5 := by
  obtain ⟨v0, vs0, d0, ds0, p0, q0, hargs, rfl, rfl, hd0, h0⟩ := trodAll_cons h
  obtain ⟨v1, vs1, d1, ds1, p1, q1, rfl, rfl, rfl, hd1, h1⟩ := trodAll_cons h0
  obtain ⟨v2, vs2, d2, ds2, p2, q2, rfl, rfl, rfl, hd2, h2⟩ := trodAll_cons h1
  obtain ⟨v3, vs3, d3, ds3, p3, q3, rfl, rfl, rfl, hd3, h3⟩ := trodAll_cons h2
  obtain ⟨v4, vs4, d4, ds4, p4, q4, rfl, rfl, rfl, hd4, h4⟩ := trodAll_cons h3
  obtain ⟨v5, vs5, d5, ds5, p5, q5, rfl, rfl, rfl, hd5, h5⟩ := trodAll_cons h4
  obtain ⟨rfl, rfl, rfl⟩ := trodAll_nil h5
  exact ⟨v0, v1, v2, v3, v4, v5, d0, d1, d2, d3, d4, d5, p0, p1, p2, p3, p4, p5, by cases args; simp_all, rfl, by simp, hd0, hd1, hd2, hd3, hd4, hd5⟩
set_option maxRecDepth 100000 in
theorem apart_lifted (os : Os) (started : os.Started) (H : Type) (enc : TypeId × Value → H) :
    ReturnsInHanded {} Tryz.checked os 5 .any (fun w args => (Rows.poolApartSpec.pre enc Tryz.prog Tryz.f5 [] false w args ∧ laidMetH Tryz.prog laidK w) ∧ sizedMet enc Tryz.prog Tryz.f5 (OpenSpec.ofChange Rows.poolApartSpec) false w args)
      (Rows.poolApartSpec.post enc Tryz.prog Tryz.f5 false true false false) := by
  refine returnsInHanded_of_change_and (C := Tryz.checked) (X := fun w _ => laidMetH Tryz.prog laidK w) (fun _ _ _ hh h => h.of_heap hh) own_knob started (by kernel_rfl) Tryz.func5
    (ChangeSpec.witness_shaped (enc := enc) (C := Tryz.checked) (os := os) (X := fun w _ => laidMetH Tryz.prog laidK w) false (World.doorLaid Tryz.prog 400 os) #[.slice none 0 0, zTree, .int .i64 0, .int .i64 0, zTx, .slice none 0 0] 8 rfl (World.shaped_of_RefB (by kernel_rfl) (by kernel_rfl)) (by kernel_rfl) (by kernel_rfl) (by kernel_rfl) (door_met os _)) ?_
  intro W base args ds gs before hval0 hW _ _ hL _
  have hval : ∀ (j : Nat) t v, Tryz.f5.params[j]? = some t → args[j]? = some v → Value.okWide Tryz.prog W .any base t v := hval0
  have hW0 : DataW.Whole enc Tryz.prog Tryz.f5.params.toList Rows.poolApartSpec.vars false W args.toList ds gs before := hW
  obtain ⟨p, q, hA0, hV, rfl, hfz, hnd⟩ := hW
  have hA : DataW.TrodAll enc Tryz.prog W 0 (fun _ => true) true [45, 27, 3, 3, 50, 28] args.toList ds p := hA0
  obtain ⟨v0, v1, v2, v3, v4, v5, d0, d1, d2, d3, d4, d5, p0, p1, p2, p3, p4, p5, rfl, rfl, rfl, h0, h1, h2, h3, h4, h5⟩ := trodAll_six hA
  obtain ⟨s, s1, s2⟩ := ra_of in_41d h0
  obtain ⟨t, t1, t2⟩ := ra_of in_90 h1
  obtain ⟨n, n1, n2⟩ := ra_of (in_int ud3') h2
  obtain ⟨c, c1, c2⟩ := ra_of (in_int ud3') h3
  obtain ⟨x, x1, x2⟩ := ra_of in_36d h4
  obtain ⟨l, l1, l2⟩ := ra_of in_24d h5
  have hmin : IntKind.min .i64 = -9223372036854775808 := rfl
  have hmax : IntKind.max .i64 = 9223372036854775807 := rfl
  have n3 : aggV v2 = false := by
    obtain ⟨k, rfl⟩ := okWide_int ud3' (hval 2 3 v2 rfl rfl)
    rfl
  have c3 : aggV v3 = false := by
    obtain ⟨k, rfl⟩ := okWide_int ud3' (hval 3 3 v3 rfl rfl)
    rfl
  refine (calls_trueG (F5_beadrolllaw21_PoolApart_ok (apart_law (fun z hz => shok_of (s1 z hz)) t1 n (by rw [← hmin, ← hmax]; exact c1) x1.ok (fun z hz => (l1 z hz).ok))) ⟨_, _, rfl, s2, agg_sl ud41 (hval 0 45 v0 rfl rfl), _, _, rfl, t2, agg_st ud90 (hval 1 27 v1 rfl rfl), _, _, rfl, n2, n3, _, _, rfl, c2, c3, _, _, rfl, x2, agg_st ud36 (hval 4 50 v4 rfl rfl), _, _, rfl, l2, agg_sl ud24 (hval 5 28 v5 rfl rfl), rfl⟩ (globs_of_laid hL)).mono fun e W' ⟨he, hb⟩ => ⟨_, he, ?_⟩
  obtain ⟨rfl, rfl⟩ := trodVars_none hV
  exact post_law laid_out (by intro t ht; rw [show Tryz.f5.params.toList = [45, 27, 3, 3, 50, 28] from rfl] at ht; exact (show ∀ t ∈ [45, 27, 3, 3, 50, 28], Tryz.prog.readableRec t = true ∧ t < Tryz.prog.types.size from by simp only [List.forall_mem_cons]; exact ⟨read41, read90, read3, read3, read36, read24, fun _ h => by cases h⟩) t ht) rfl ud4 rfl hW0 ⟨rfl, rfl, rfl⟩ hb
theorem apart_holds : Rows.PoolApartSaid :=
  OpenClaim.holds_of_wide 5 Tryz.f5 rfl rfl rfl rfl rfl rfl rfl ⟨rfl, rfl, rfl, rfl, rfl⟩ rfl rfl rfl rfl rfl (by kernel_rfl) Tryz.func5 (by kernel_rfl)
    (of_decide_eq_true (by kernel_rfl)) (by unfold Func.isWrapper; first | (rw [if_pos (by decide +kernel)]; kernel_rfl) | (rw [if_neg (by decide +kernel)]; exact ⟨rfl, rfl⟩))
    (fun os started H enc _ => apart_lifted os started H enc)
theorem apart_card : Rows.PoolApartCardSaid :=
  Claim7.holds_tied_plain_at .later [] [.data] true (true, "5e9f412f1212bc61720c0ae96912b2e2a3af49d40f0d1deeb001c10fd3b9134f") false
    apart_holds (fun _ h => by cases h) (by kernel_rfl) (fun _ h => by cases h) poolApart_row_tie rfl ⟨rfl, rfl⟩ (by kernel_rfl) rfl
    (fun f fn hf hfn => by
      obtain rfl : f = 5 := Option.some.inj ((show Tryz.prog.funcNamed "beadroll/beadrolllaw21.PoolApart" = some 5 by kernel_rfl).symm.trans hf) |>.symm
      obtain rfl : fn = Tryz.f5 := (Option.some.inj (Tryz.func5.symm.trans hfn)).symm
      exact ⟨by kernel_rfl, fun j t ht => by
        rw [show Tryz.f5.params = #[45, 27, 3, 3, 50, 28] from rfl] at ht
        have hm : t ∈ [45, 27, 3, 3, 50, 28] := by simpa using Array.mem_of_getElem? ht
        have hall : ([45, 27, 3, 3, 50, 28].all fun u => !Tryz.prog.wantsStandIn u) = true := by kernel_rfl
        exact (show Tryz.prog.wantsStandIn t = false by simpa using List.all_eq_true.1 hall t hm)⟩)
    (by kernel_rfl)
#print axioms apart_card
end Go.Proofs.YtonfljoibcnlgaaGreatDoor
