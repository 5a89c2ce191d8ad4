/-
  PRINTED by wip/pr3.py: for each Go function a Lean function with the same answers, and the proof.
-/
import Derived.Test.YtonfljoibcnlgaaDoorXa
namespace Go.Proofs.YtonfljoibcnlgaaDoor
open Bd
set_option maxRecDepth 10000



def F76_Clone (n : Nat) (a0 : List GTx) : Option (List GTx) := if a0.length ≤ 1073741824 then some a0 else none
theorem F76_Clone_ok {n : Nat} {a0 r : List GTx} (h : F76_Clone n a0 = some r) :
    ACall Tryd.prog GS 76 [.d (eL24 a0)] [] (fun r' hp' => r' = .slc 0 0 (r).length 99 ∧ hp' = [(0, .av (.d (.arr 99 (r).length ((r).map eGTx))))]) := by
  refine acall_of_body mixed Tryd.func76 rfl (by rfl) ?_
  intro C hro hgl hb0
  unfold F76_Clone at h
  obtain ⟨hb, h⟩ := ifp h
  obtain rfl := Option.some.inj h
  refine aw_rs ?_
  refine .as rfl (by rfl) ?_
  refine .nil (aq_then ?_)
  refine aw_seq ?_
  refine aw_rs ?_
  refine .mv rfl (by rfl) ?_
  refine .eqNil (by rfl) sl24 rfl rfl rfl (fun hnil => ?_) ?_
  · obtain rfl := List.map_eq_nil_iff.1 hnil
    refine .nil (aq_then ?_)
    refine aw_cond rfl (fun _ => ?_) (fun hx => absurd hx (by simp))
    refine aw_rs ?_
    refine .as rfl (by rfl) ?_
    refine .nil (aq_then ?_)
    refine aw_ret ?_
    refine aq_then_ret ?_
    refine aq_adopt 2 0 99 rfl rfl ?_
    refine aq_weak (s' := ⟨[(2, .slc 0 0 ([] : List GTx).length 99)], [(0, .av (.d (.arr 99 ([] : List GTx).length (([] : List GTx).map eGTx))))], []⟩) id hb0 (.keep rfl .nil) (.keep rfl .nil) rfl (by rfl) ?_
    exact aq_fin1 (.tmp rfl (by rfl) .nil) rfl ⟨rfl, rfl⟩
  · refine .nil (aq_then ?_)
    refine aw_cond rfl (fun hx => absurd hx (by simp)) (fun _ => ?_)
    refine aw_skip ?_
    refine aq_then ?_
    refine aw_rs ?_
    refine .n (f_buildS0 1 (by rfl) el24) rfl .nil rfl ?_
    refine .mv rfl (by rfl) ?_
    refine .w (f_appendC (m := a0.length) (ys := (a0 : List GTx).map eGTx) (xs := ([] : List D)) (zs := (a0).map eGTx) 0 (by rfl) el24 (by simp) (by simp) (by simp) (by simp) (Nat.le_trans (Nat.mul_le_mul_right _ hb) (by decide)) (Nat.le_trans hb (by decide)) srcD) rfl (.c rfl (.c rfl .nil)) (.cons rfl .nil) (.cons rfl .nil) ?_
    refine .as rfl (by rfl) ?_
    refine .nil (aq_then ?_)
    refine aw_ret ?_
    refine aq_weak (s' := ⟨[(2, .slc 0 0 (a0).length 99)], [(0, .av (.d (.arr 99 (a0).length ((a0).map eGTx))))], []⟩) id hb0 (.keep rfl .nil) (.keep rfl .nil) rfl (by rfl) ?_
    exact aq_fin1 (.tmp rfl (by rfl) .nil) rfl ⟨rfl, rfl⟩

theorem zlx83 : ((zelB Tryd.prog 24).map fun cs => cs.all leafV) = some true := by kernel_rfl
theorem exf83 : Extern.find Tryd.f113 = some (Extern.SlicesOverlaps.overlaps #[24, 24] #[4]) := by kernel_rfl
theorem exn83 : Extern.findNext Tryd.f113 = none := by kernel_rfl
def F83_Insert (n : Nat) (a0 : Int) (a1 a2 : List GTx) : Option (List GTx) := if 0 ≤ a0 ∧ a0 ≤ a1.length ∧ a2.length = 1 ∧ a1.length + a2.length ≤ 1073741824 then some (a1.take a0.toNat ++ a2 ++ a1.drop a0.toNat) else none
theorem F83_Insert_ok {n : Nat} {a0 : Int} {a1 a2 r : List GTx} (h : F83_Insert n a0 a1 a2 = some r) :
    ACall Tryd.prog GS 83 [.slc 0 0 (a1).length 99, .d (.val (.int .i64 a0)), .slc 1 0 (a2).length 99] [(0, .av (.d (.arr 99 (a1).length ((a1).map eGTx)))), (1, .av (.d (.arr 99 (a2).length ((a2).map eGTx))))]
      (fun r' hp' => r' = .slc 2 0 (r).length 99 ∧ hp' = [(2, .av (.d (.arr 99 (r).length ((r).map eGTx)))), (0, .dead), (1, .av (.d (.arr 99 (a2).length ((a2).map eGTx))))]) := by
  refine acall_of_body1 mixed Tryd.func83 rfl (by rfl) ?_
  intro C hro hgl hb0 hb1
  unfold F83_Insert at h
  obtain ⟨⟨h0, h1, hm, hb⟩, h⟩ := ifp h
  obtain rfl := Option.some.inj h
  obtain ⟨i, rfl⟩ := Int.eq_ofNat_of_zero_le h0
  have hi1 : i ≤ a1.length := by omega
  have hsum : (((a1).length : Int) + ((a2).length : Int)) = ((a1.length + a2.length : Nat) : Int) := by omega
  have hlen : ((a1.take i ++ a2 ++ a1.drop i).length) = a1.length + a2.length := by simp only [List.length_append, List.length_take, List.length_drop]; omega
  have hmap : (a1.take i ++ a2 ++ a1.drop i).map eGTx = (a1.map eGTx).take i ++ a2.map eGTx ++ (a1.map eGTx).drop i := by simp only [List.map_append, List.map_take, List.map_drop]
  have el1 : (a1.map eGTx).length = a1.length := List.length_map _
  have el2 : (a2.map eGTx).length = a2.length := List.length_map _
  simp only [Int.toNat_natCast] at *
  refine aw_rs ?_
  refine .as rfl (by rfl) ?_
  refine .nil (aq_then ?_)
  refine aw_rs ?_
  refine .mv rfl (by rfl) ?_
  refine .mv rfl (by rfl) ?_
  refine .v (f_sliceO (k1 := .i64) (k2 := .i64) (i := (i : Int)) (j := ((a1).length : Int)) (by rfl) sl24 (by simp) (by simp) (by omega) (by omega) (by omega)) rfl (.c rfl (.c rfl .nil)) .nil ?_
  refine .nil (aq_then ?_)
  refine aw_rs ?_
  refine .mv rfl (by rfl) ?_
  refine .v (f_lenO (by rfl) sl24 rfl) rfl (.c rfl .nil) .nil ?_
  refine .as rfl (by rfl) ?_
  refine .nil (aq_then ?_)
  refine aw_seq ?_
  refine aw_rs ?_
  refine .mv rfl (by rfl) ?_
  refine .bi (r := .bool false) rfl rfl (by simp [binI, hm]) rfl (by rfl) ?_
  refine .nil (aq_then ?_)
  refine aw_cond rfl (fun hx => absurd hx (by simp)) (fun _ => ?_)
  refine aw_skip ?_
  refine aq_then ?_
  refine aw_rs ?_
  refine .mv rfl (by rfl) ?_
  refine .v (f_lenO (by rfl) sl24 rfl) rfl (.c rfl .nil) .nil ?_
  refine .as rfl (by rfl) ?_
  refine .nil (aq_then ?_)
  refine aw_seq ?_
  refine aw_rs ?_
  refine .mv rfl (by rfl) ?_
  refine .mv rfl (by rfl) ?_
  refine .bi (r := .bool (decide (i = a1.length))) rfl rfl (by by_cases e : i = a1.length <;> simp [binI, e, Int.ofNat_inj]) rfl (by rfl) ?_
  refine .nil (aq_then ?_)
  refine aw_cond rfl (fun hx => ?_) (fun hx => ?_)
  · have hie : i = a1.length := by simpa using hx
    subst hie
    refine aw_rs ?_
    refine .mv rfl (by rfl) ?_
    refine .mv rfl (by rfl) ?_
    refine .w (f_appendC (m := a1.length + a2.length) (ys := a2.map eGTx) (xs := a1.map eGTx) (zs := (a1 ++ a2).map eGTx) 2 (by rfl) el24 (by simp) (by simp) (by simp) (by simp) (Nat.le_trans (Nat.mul_le_mul_right _ hb) (by decide)) (Nat.le_trans hb (by decide)) (srcO (o := 1) (n := a2.length) (xs := a2.map eGTx) (by omega) (by rw [List.drop_zero]; exact List.take_of_length_le (by omega)))) rfl (.c rfl (.c rfl .nil)) (.cons rfl (.cons rfl .nil)) (.cons rfl .nil) ?_
    refine .as rfl (by rfl) ?_
    refine .nil (aq_then ?_)
    refine aw_ret ?_
    refine aq_then_ret ?_
    have hr : (a1.take a1.length ++ a2 ++ a1.drop a1.length) = a1 ++ a2 := by simp
    rw [hr, show (a1 ++ a2).length = a1.length + a2.length from List.length_append]
    refine aq_weak (s' := ⟨[(6, .slc 2 0 (a1.length + a2.length) 99)], [(2, .av (.d (.arr 99 (a1.length + a2.length) ((a1 ++ a2).map eGTx)))), (0, .dead), (1, .av (.d (.arr 99 (a2).length ((a2).map eGTx))))], []⟩) id hb0 (.keep rfl .nil) (.keepH rfl (.keepH rfl (.keepH rfl .nil))) rfl (by rfl) ?_
    exact aq_fin1 (.tmp rfl (by rfl) .nil) rfl ⟨rfl, rfl⟩
  · have hlt : i < a1.length := by have : ¬ (i = a1.length) := by simpa using hx
                                   omega
    refine aw_skip ?_
    refine aq_then ?_
    refine aw_exact 0 (o := 0) (n := a1.length) (sz := 99) rfl (hb1 0 _ rfl) (by omega) (fun b base tot cap hB hc ht => ?_)
    refine aw_seq ?_
    refine aw_rs ?_
    refine .mv rfl (by rfl) ?_
    refine .mv rfl (by rfl) ?_
    refine .bi (r := .int .i64 ((a1.length + a2.length : Nat) : Int)) rfl rfl (bi_add hsum (by omega) (by omega)) rfl (by rfl) ?_
    refine .mv rfl (by rfl) ?_
    refine .v (f_capX (by rfl) sl24 rfl) rfl (.c rfl .nil) .nil ?_
    refine .bi (r := .bool (decide (cap < a1.length + a2.length))) rfl rfl (by simp only [binI]; congr 2; exact decide_eq_decide.2 (by omega)) rfl (by rfl) ?_
    refine .nil (aq_then ?_)
    refine aw_cond rfl (fun hx2 => ?_) (fun hx2 => ?_)
    · have hcap : cap < a1.length + a2.length := by simpa using hx2
      obtain ⟨z, hz1, hz2⟩ := zel_ex zlx83
      refine aw_rs ?_
      refine .mv rfl (by rfl) ?_
      refine .mv rfl (by rfl) ?_
      refine .v (f_sliceXE (k1 := .i64) (k2 := .i64) (i := 0) (j := (i : Int)) base i cap (by rfl) sl24 (by simp) (by simp) (by omega) (by omega) (by omega) (by omega) (by omega) (by omega) (by omega)) rfl (.c rfl (.c rfl .nil)) .nil ?_
      refine .mv rfl (by rfl) ?_
      refine .mv rfl (by rfl) ?_
      refine .bi (r := .int .i64 ((a1.length + a2.length : Nat) : Int)) rfl rfl (bi_add hsum (by omega) (by omega)) rfl (by rfl) ?_
      refine .mv rfl (by rfl) ?_
      refine .bi (r := .int .i64 ((a1.length + a2.length - i : Nat) : Int)) rfl rfl (bi_sub (by omega) (by omega) (by omega)) rfl (by rfl) ?_
      refine .w (f_appendZG (o := 0) (n := a1.length) (i := i) (kz := a1.length + a2.length - i) (m := a1.length + a2.length) (z := z) (xs := a1.map eGTx) 2 (by rfl) el24 un3 hz1 hz2 hB el1 hi1 (by omega) (by omega) (by omega) (Nat.le_trans (Nat.mul_le_mul_right _ hb) (by decide)) (Nat.le_trans hb (by decide))) rfl (.c rfl (.c rfl .nil)) (.cons rfl .nil) (.cons rfl .nil) ?_
      refine .as rfl (by rfl) ?_
      refine .nil (aq_then ?_)
      refine aw_rs ?_
      refine .mv rfl (by rfl) ?_
      refine .mv rfl (by rfl) ?_
      refine .v (f_sliceO (k1 := .i64) (k2 := .i64) (i := (i : Int)) (j := ((a1.length + a2.length : Nat) : Int)) (by rfl) sl24 (by simp) (by simp) (by omega) (by omega) (by omega)) rfl (.c rfl (.c rfl .nil)) .nil ?_
      refine .mv rfl (by rfl) ?_
      have zs1 := ins1 (E := a1.map eGTx) (V := a2.map eGTx) (z := z) (i := i) (by omega)
      have zs2 := ins2 (E := a1.map eGTx) (V := a2.map eGTx) (z := z) (i := i) (by omega)
      rw [el1, el2] at zs1 zs2
      refine .w (hn := []) (f_copyO (o := 2) (c := a2.length) (ys := a2.map eGTx) (by rfl) sl24 (by simp only [Int.toNat_natCast]; omega) (by simp only [List.length_append, List.length_take, List.length_replicate, el1]; omega) (by simp only [Int.toNat_natCast, el2]; exact (Nat.min_eq_left (by omega)).symm) (by simp only [Int.toNat_natCast, Nat.zero_add]; exact zs1) (srcO (o := 1) (n := a2.length) (xs := a2.map eGTx) (by omega) (by rw [List.drop_zero]; exact List.take_of_length_le (by omega)))) rfl (.c rfl (.c rfl .nil)) (.cons rfl (.cons rfl .nil)) .nil ?_
      refine .nil (aq_then ?_)
      refine aw_unexact 0 (o := 0) (sz := 99) rfl hB hc ht ?_
      refine aw_rds ?_
      refine .v (f_move (by rfl)) rfl (.c rfl .nil) .nil ?_
      refine .v (f_move (by rfl)) rfl (.c rfl .nil) .nil ?_
      refine .v (f_move (by rfl)) rfl (.c rfl .nil) .nil ?_
      refine .v (f_binI (r := .int .i64 ((i + a2.length : Nat) : Int)) (by rfl) (bi_add (by omega) (by omega) (by omega)) (by rfl)) rfl (.c rfl (.c rfl .nil)) .nil ?_
      refine .v (f_sliceO (k1 := .i64) (k2 := .i64) (i := ((i + a2.length : Nat) : Int)) (j := ((a1.length + a2.length : Nat) : Int)) (by rfl) sl24 (by simp) (by simp) (by omega) (by omega) (by omega)) rfl (.c rfl (.c rfl .nil)) .nil ?_
      refine .v (f_move (by rfl)) rfl (.c rfl .nil) .nil ?_
      refine .v (f_move (by rfl)) rfl (.c rfl .nil) .nil ?_
      refine .v (f_sliceO (k1 := .i64) (k2 := .i64) (i := (i : Int)) (j := ((a1.length : Nat) : Int)) (by rfl) sl24 (by simp) (by simp) (by omega) (by omega) (by omega)) rfl (.c rfl (.c rfl .nil)) .nil ?_
      refine .w (hn := []) (f_copyO (o := 2) (c := a1.length - i) (ys := (a1.map eGTx).drop i) (by rfl) sl24 (by simp only [Int.toNat_natCast]; omega) (by simp only [List.length_append, List.length_take, List.length_replicate, el1, el2]; omega) (by simp only [Int.toNat_natCast, List.length_drop, el1]; exact (Nat.min_eq_left (by omega)).symm) (by simp only [Int.toNat_natCast, Nat.zero_add]; exact zs2) (srcO (o := 0) (n := a1.length) (xs := a1.map eGTx) (by omega) (by simp only [Int.toNat_natCast, Nat.zero_add]; exact List.take_of_length_le (by rw [List.length_drop]; omega)))) rfl (.c rfl (.c rfl .nil)) (.cons rfl (.cons rfl .nil)) .nil ?_
      refine .nil (by kernel_rfl) ?_
      refine aw_rs ?_
      refine .mv rfl (by rfl) ?_
      refine .as rfl (by rfl) ?_
      refine .nil (aq_then ?_)
      refine aw_ret ?_
      refine aq_then_ret ?_
      rw [hlen, hmap]
      refine aq_kill 0 rfl ?_
      refine aq_weak (s' := ⟨[(6, .slc 2 0 (a1.length + a2.length) 99)], [(2, .av (.d (.arr 99 (a1.length + a2.length) ((a1.map eGTx).take i ++ a2.map eGTx ++ (a1.map eGTx).drop i)))), (0, .dead), (1, .av (.d (.arr 99 (a2).length ((a2).map eGTx))))], []⟩) id hb0 (.keep rfl .nil) (.keepH rfl (.keepH rfl (.keepH rfl .nil))) rfl (by rfl) ?_
      exact aq_fin1 (.tmp rfl (by rfl) .nil) rfl ⟨rfl, rfl⟩
    · have hcap : a1.length + a2.length ≤ cap := by have : ¬ (cap < a1.length + a2.length) := by simpa using hx2
                                                    omega
      have hcs : (a1.length + a2.length) * 99 ≤ cap * 99 := Nat.mul_le_mul_right _ hcap
      refine aw_skip ?_
      refine aq_then ?_
      refine aw_rs ?_
      refine .mv rfl (by rfl) ?_
      refine .mv rfl (by rfl) ?_
      refine .mv rfl (by rfl) ?_
      refine .bi (r := .int .i64 ((a1.length + a2.length : Nat) : Int)) rfl rfl (bi_add hsum (by omega) (by omega)) rfl (by rfl) ?_
      refine .v (f_sliceXE (k1 := .i64) (k2 := .i64) (i := 0) (j := ((a1.length + a2.length : Nat) : Int)) base (a1.length + a2.length) cap (by rfl) sl24 (by simp) (by simp) (by omega) (by omega) (by omega) (by omega) (by omega) (by omega) (by omega)) rfl (.c rfl (.c rfl .nil)) .nil ?_
      refine .as rfl (by rfl) ?_
      refine .nil (aq_then ?_)
      refine aw_seq ?_
      refine aw_rs ?_
      refine .mv rfl (by rfl) ?_
      refine .mv rfl (by rfl) ?_
      refine .mv rfl (by rfl) ?_
      refine .mv rfl (by rfl) ?_
      refine .bi (r := .int .i64 ((i + a2.length : Nat) : Int)) rfl rfl (bi_add (by omega) (by omega) (by omega)) rfl (by rfl) ?_
      refine .v (f_sliceXE (k1 := .i64) (k2 := .i64) (i := ((i + a2.length : Nat) : Int)) (j := ((a1.length + a2.length : Nat) : Int)) (base + (i + a2.length) * 99) (a1.length - i) (cap - (i + a2.length)) (by rfl) sl24 (by simp) (by simp) (by omega) (by omega) (by omega) (by omega) (by omega) (by omega) (by omega)) rfl (.c rfl (.c rfl .nil)) .nil ?_
      refine .v (f_overlaps (o := 0) (o1 := 1) (by rfl) Tryd.func113 (by rfl) (by rfl) exn83 exf83 sl24 hB (by omega) (by omega) (by decide)) rfl (.c rfl (.c rfl .nil)) (.cons rfl (.cons rfl .nil)) ?_
      refine .v (f_not (by rfl)) rfl (.c rfl .nil) .nil ?_
      refine .nil (aq_then ?_)
      refine aw_cond rfl (fun _ => ?_) (fun hx => absurd hx (by simp))
      refine aw_rds ?_
      refine .v (f_move (by rfl)) rfl (.c rfl .nil) .nil ?_
      refine .v (f_move (by rfl)) rfl (.c rfl .nil) .nil ?_
      refine .v (f_move (by rfl)) rfl (.c rfl .nil) .nil ?_
      refine .v (f_binI (r := .int .i64 ((i + a2.length : Nat) : Int)) (by rfl) (bi_add (by omega) (by omega) (by omega)) (by rfl)) rfl (.c rfl (.c rfl .nil)) .nil ?_
      refine .v (f_sliceXE (k1 := .i64) (k2 := .i64) (i := ((i + a2.length : Nat) : Int)) (j := ((a1.length + a2.length : Nat) : Int)) (base + (i + a2.length) * 99) (a1.length - i) (cap - (i + a2.length)) (by rfl) sl24 (by simp) (by simp) (by omega) (by omega) (by omega) (by omega) (by omega) (by omega) (by omega)) rfl (.c rfl (.c rfl .nil)) .nil ?_
      refine .v (f_move (by rfl)) rfl (.c rfl .nil) .nil ?_
      refine .v (f_move (by rfl)) rfl (.c rfl .nil) .nil ?_
      refine .v (f_sliceXE (k1 := .i64) (k2 := .i64) (i := (i : Int)) (j := ((a1.length + a2.length : Nat) : Int)) (base + i * 99) (a1.length + a2.length - i) (cap - i) (by rfl) sl24 (by simp) (by simp) (by omega) (by omega) (by omega) (by omega) (by omega) (by omega) (by omega)) rfl (.c rfl (.c rfl .nil)) .nil ?_
      refine .w (hn := []) (f_copyX (o := 0) (n := a1.length) (p := i + a2.length) (q := i) (c := a1.length - i) (n' := a1.length + a2.length) (xs := a1.map eGTx) (zs := (a1.map eGTx).take (i + a2.length) ++ (a1.map eGTx).drop i) (base + (i + a2.length) * 99) (base + i * 99) (by rfl) sl24 hB el1 (Nat.min_eq_right (by omega)).symm rfl rfl (by omega) (by omega) (by omega) (by rw [show i + a2.length + (a1.length - i) = a1.length + a2.length from by omega]; omega) (by omega) (by rw [List.take_of_length_le (l := (a1.map eGTx).drop i) (by rw [List.length_drop, el1]; exact Nat.le_refl _)])) rfl (.c rfl (.c rfl .nil)) (.cons rfl .nil) .nil ?_
      refine .nil (by kernel_rfl) ?_
      refine aw_unexact 0 (o := 0) (sz := 99) rfl hB hcap ht ?_
      have zs3 := ins3 (E := a1.map eGTx) (V := a2.map eGTx) (i := i) (by omega)
      rw [el2] at zs3
      refine aw_rs ?_
      refine .mv rfl (by rfl) ?_
      refine .mv rfl (by rfl) ?_
      refine .v (f_sliceO (k1 := .i64) (k2 := .i64) (i := (i : Int)) (j := ((a1.length + a2.length : Nat) : Int)) (by rfl) sl24 (by simp) (by simp) (by omega) (by omega) (by omega)) rfl (.c rfl (.c rfl .nil)) .nil ?_
      refine .mv rfl (by rfl) ?_
      refine .w (hn := []) (f_copyO (o := 0) (c := a2.length) (ys := a2.map eGTx) (by rfl) sl24 (by simp only [Int.toNat_natCast]; omega) (by simp only [List.length_append, List.length_take, List.length_drop, el1]; omega) (by simp only [Int.toNat_natCast, el2]; exact (Nat.min_eq_left (by omega)).symm) (by simp only [Int.toNat_natCast, Nat.zero_add]; exact zs3) (srcO (o := 1) (n := a2.length) (xs := a2.map eGTx) (by omega) (by rw [List.drop_zero]; exact List.take_of_length_le (by omega)))) rfl (.c rfl (.c rfl .nil)) (.cons rfl (.cons rfl .nil)) .nil ?_
      refine .nil (aq_then ?_)
      refine aw_rs ?_
      refine .mv rfl (by rfl) ?_
      refine .as rfl (by rfl) ?_
      refine .nil (aq_then ?_)
      refine aw_ret ?_
      refine aq_then_ret ?_
      rw [hlen, hmap]
      refine aq_anewE 6 2 rfl rfl rfl rfl (by omega) rfl ?_
      refine aq_weak (s' := ⟨[(6, .slc 2 0 (a1.length + a2.length) 99)], [(2, .av (.d (.arr 99 (a1.length + a2.length) ((a1.map eGTx).take i ++ a2.map eGTx ++ (a1.map eGTx).drop i)))), (0, .dead), (1, .av (.d (.arr 99 (a2).length ((a2).map eGTx))))], []⟩) id hb0 (.keep rfl .nil) (.keepH rfl (.keepH rfl (.keepH rfl .nil))) rfl (by rfl) ?_
      exact aq_fin1 (.tmp rfl (by rfl) .nil) rfl ⟨rfl, rfl⟩
end Go.Proofs.YtonfljoibcnlgaaDoor
