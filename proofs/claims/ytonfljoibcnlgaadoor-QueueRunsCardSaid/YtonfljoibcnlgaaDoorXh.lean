/-
  PRINTED by wip/pr3.py: for each Go function a Lean function with the same answers, and the proof.
-/
import Derived.Test.YtonfljoibcnlgaaDoorXa
namespace Go.Proofs.YtonfljoibcnlgaaDoor
open Bd
set_option maxRecDepth 10000



def F76_Clone (n : Nat) (a0 : List GTx) : Option (List GTx) := if a0.length ≤ 1073741824 then some a0 else none
theorem F76_Clone_ok {n : Nat} {a0 r : List GTx} (h : F76_Clone n a0 = some r) :
    ACall Tryd.prog GS 76 [.d (eL24 a0)] [] (fun r' hp' => r' = .slc 0 0 (r).length 99 ∧ hp' = [(0, .av (.d (.arr 99 (r).length ((r).map eGTx))))]) := by
  refine acall_of_body mixed Tryd.func76 rfl (by rfl) ?_
  intro C hro hgl hb0
  unfold F76_Clone at h
  obtain ⟨hb, h⟩ := ifp h
  obtain rfl := Option.some.inj h
  refine aw_rs ?_
  refine .as rfl (by rfl) ?_
  refine .nil (aq_then ?_)
  refine aw_seq ?_
  refine aw_rs ?_
  refine .mv rfl (by rfl) ?_
  refine .eqNil (by rfl) sl24 rfl rfl rfl (fun hnil => ?_) ?_
  · obtain rfl := List.map_eq_nil_iff.1 hnil
    refine .nil (aq_then ?_)
    refine aw_cond rfl (fun _ => ?_) (fun hx => absurd hx (by simp))
    refine aw_rs ?_
    refine .as rfl (by rfl) ?_
    refine .nil (aq_then ?_)
    refine aw_ret ?_
    refine aq_then_ret ?_
    refine aq_adopt 2 0 99 rfl rfl ?_
    refine aq_weak (s' := ⟨[(2, .slc 0 0 ([] : List GTx).length 99)], [(0, .av (.d (.arr 99 ([] : List GTx).length (([] : List GTx).map eGTx))))], []⟩) id hb0 (.keep rfl .nil) (.keep rfl .nil) rfl (by rfl) ?_
    exact aq_fin1 (.tmp rfl (by rfl) .nil) rfl ⟨rfl, rfl⟩
  · refine .nil (aq_then ?_)
    refine aw_cond rfl (fun hx => absurd hx (by simp)) (fun _ => ?_)
    refine aw_skip ?_
    refine aq_then ?_
    refine aw_rs ?_
    refine .n (f_buildS0 1 (by rfl) el24) rfl .nil rfl ?_
    refine .mv rfl (by rfl) ?_
    refine .w (f_appendC (m := a0.length) (ys := (a0 : List GTx).map eGTx) (xs := ([] : List D)) (zs := (a0).map eGTx) 0 (by rfl) el24 (by simp) (by simp) (by simp) (by simp) (Nat.le_trans (Nat.mul_le_mul_right _ hb) (by decide)) (Nat.le_trans hb (by decide)) srcD) rfl (.c rfl (.c rfl .nil)) (.cons rfl .nil) (.cons rfl .nil) ?_
    refine .as rfl (by rfl) ?_
    refine .nil (aq_then ?_)
    refine aw_ret ?_
    refine aq_weak (s' := ⟨[(2, .slc 0 0 (a0).length 99)], [(0, .av (.d (.arr 99 (a0).length ((a0).map eGTx))))], []⟩) id hb0 (.keep rfl .nil) (.keep rfl .nil) rfl (by rfl) ?_
    exact aq_fin1 (.tmp rfl (by rfl) .nil) rfl ⟨rfl, rfl⟩
end Go.Proofs.YtonfljoibcnlgaaDoor
