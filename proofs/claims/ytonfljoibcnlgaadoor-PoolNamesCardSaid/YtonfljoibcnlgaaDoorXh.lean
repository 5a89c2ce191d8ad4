/-
  PRINTED by wip/pr3.py: for each Go function a Lean function with the same answers, and the proof.
-/
import Derived.Test.YtonfljoibcnlgaaDoorXa
namespace Go.Proofs.YtonfljoibcnlgaaDoor
open Bd
set_option maxRecDepth 10000


theorem el72 : elB Tryd.prog 72 = some (33, 56) := by kernel_rfl
theorem en123 : enterB Tryd.prog 123 = true := by kernel_rfl
theorem en150 : enterB Tryd.prog 150 = true := by kernel_rfl
theorem zr4 : ∃ zv, zeroB Tryd.prog 4 = some zv ∧ ∀ F μ w, RA F μ w (.d (eB false)) zv.cells.toList := zero_mk' (by kernel_rfl) (by kernel_rfl)
theorem zr3 : ∃ zv, zeroB Tryd.prog 3 = some zv ∧ ∀ F μ w, RA F μ w (.d (eI_i64 (0 : Int))) zv.cells.toList := zero_mk' (by kernel_rfl) (by kernel_rfl)
theorem en175 : enterB Tryd.prog 175 = true := by kernel_rfl

def F76_Clone (n : Nat) (a0 : List GTx) : Option (List GTx) := if a0.length ≤ 1073741824 then some a0 else none
theorem F76_Clone_ok {n : Nat} {a0 r : List GTx} (h : F76_Clone n a0 = some r) :
    ACall Tryd.prog GS 76 [.d (eL24 a0)] [] (fun r' hp' => r' = .slc 0 0 (r).length 99 ∧ hp' = [(0, .av (.d (.arr 99 (r).length ((r).map eGTx))))]) := by
  refine acall_of_body mixed Tryd.func76 rfl (by rfl) ?_
  intro C hro hgl hb0
  unfold F76_Clone at h
  obtain ⟨hb, h⟩ := ifp h
  obtain rfl := Option.some.inj h
  refine aw_rs ?_
  refine .as rfl (by rfl) ?_
  refine .nil (aq_then ?_)
  refine aw_seq ?_
  refine aw_rs ?_
  refine .mv rfl (by rfl) ?_
  refine .eqNil (by rfl) sl24 rfl rfl rfl (fun hnil => ?_) ?_
  · obtain rfl := List.map_eq_nil_iff.1 hnil
    refine .nil (aq_then ?_)
    refine aw_cond rfl (fun _ => ?_) (fun hx => absurd hx (by simp))
    refine aw_rs ?_
    refine .as rfl (by rfl) ?_
    refine .nil (aq_then ?_)
    refine aw_ret ?_
    refine aq_then_ret ?_
    refine aq_adopt 2 0 99 rfl rfl ?_
    refine aq_weak (s' := ⟨[(2, .slc 0 0 ([] : List GTx).length 99)], [(0, .av (.d (.arr 99 ([] : List GTx).length (([] : List GTx).map eGTx))))], []⟩) id hb0 (.keep rfl .nil) (.keep rfl .nil) rfl (by rfl) ?_
    exact aq_fin1 (.tmp rfl (by rfl) .nil) rfl ⟨rfl, rfl⟩
  · refine .nil (aq_then ?_)
    refine aw_cond rfl (fun hx => absurd hx (by simp)) (fun _ => ?_)
    refine aw_skip ?_
    refine aq_then ?_
    refine aw_rs ?_
    refine .n (f_buildS0 1 (by rfl) el24) rfl .nil rfl ?_
    refine .mv rfl (by rfl) ?_
    refine .w (f_appendC (m := a0.length) (ys := (a0 : List GTx).map eGTx) (xs := ([] : List D)) (zs := (a0).map eGTx) 0 (by rfl) el24 (by simp) (by simp) (by simp) (by simp) (Nat.le_trans (Nat.mul_le_mul_right _ hb) (by decide)) (Nat.le_trans hb (by decide)) srcD) rfl (.c rfl (.c rfl .nil)) (.cons rfl .nil) (.cons rfl .nil) ?_
    refine .as rfl (by rfl) ?_
    refine .nil (aq_then ?_)
    refine aw_ret ?_
    refine aq_weak (s' := ⟨[(2, .slc 0 0 (a0).length 99)], [(0, .av (.d (.arr 99 (a0).length ((a0).map eGTx))))], []⟩) id hb0 (.keep rfl .nil) (.keep rfl .nil) rfl (by rfl) ?_
    exact aq_fin1 (.tmp rfl (by rfl) .nil) rfl ⟨rfl, rfl⟩

theorem zlx83 : ((zelB Tryd.prog 24).map fun cs => cs.all leafV) = some true := by kernel_rfl
theorem exf83 : Extern.find Tryd.f113 = some (Extern.SlicesOverlaps.overlaps #[24, 24] #[4]) := by kernel_rfl
theorem exn83 : Extern.findNext Tryd.f113 = none := by kernel_rfl
def F83_Insert (n : Nat) (a0 : Int) (a1 a2 : List GTx) : Option (List GTx) := if 0 ≤ a0 ∧ a0 ≤ a1.length ∧ a2.length = 1 ∧ a1.length + a2.length ≤ 1073741824 then some (a1.take a0.toNat ++ a2 ++ a1.drop a0.toNat) else none
theorem F83_Insert_ok {n : Nat} {a0 : Int} {a1 a2 r : List GTx} (h : F83_Insert n a0 a1 a2 = some r) :
    ACall Tryd.prog GS 83 [.slc 0 0 (a1).length 99, .d (.val (.int .i64 a0)), .slc 1 0 (a2).length 99] [(0, .av (.d (.arr 99 (a1).length ((a1).map eGTx)))), (1, .av (.d (.arr 99 (a2).length ((a2).map eGTx))))]
      (fun r' hp' => r' = .slc 2 0 (r).length 99 ∧ hp' = [(2, .av (.d (.arr 99 (r).length ((r).map eGTx)))), (0, .dead), (1, .av (.d (.arr 99 (a2).length ((a2).map eGTx))))]) := by
  refine acall_of_body1 mixed Tryd.func83 rfl (by rfl) ?_
  intro C hro hgl hb0 hb1
  unfold F83_Insert at h
  obtain ⟨⟨h0, h1, hm, hb⟩, h⟩ := ifp h
  obtain rfl := Option.some.inj h
  obtain ⟨i, rfl⟩ := Int.eq_ofNat_of_zero_le h0
  have hi1 : i ≤ a1.length := by omega
  have hsum : (((a1).length : Int) + ((a2).length : Int)) = ((a1.length + a2.length : Nat) : Int) := by omega
  have hlen : ((a1.take i ++ a2 ++ a1.drop i).length) = a1.length + a2.length := by simp only [List.length_append, List.length_take, List.length_drop]; omega
  have hmap : (a1.take i ++ a2 ++ a1.drop i).map eGTx = (a1.map eGTx).take i ++ a2.map eGTx ++ (a1.map eGTx).drop i := by simp only [List.map_append, List.map_take, List.map_drop]
  have el1 : (a1.map eGTx).length = a1.length := List.length_map _
  have el2 : (a2.map eGTx).length = a2.length := List.length_map _
  simp only [Int.toNat_natCast] at *
  refine aw_rs ?_
  refine .as rfl (by rfl) ?_
  refine .nil (aq_then ?_)
  refine aw_rs ?_
  refine .mv rfl (by rfl) ?_
  refine .mv rfl (by rfl) ?_
  refine .v (f_sliceO (k1 := .i64) (k2 := .i64) (i := (i : Int)) (j := ((a1).length : Int)) (by rfl) sl24 (by simp) (by simp) (by omega) (by omega) (by omega)) rfl (.c rfl (.c rfl .nil)) .nil ?_
  refine .nil (aq_then ?_)
  refine aw_rs ?_
  refine .mv rfl (by rfl) ?_
  refine .v (f_lenO (by rfl) sl24 rfl) rfl (.c rfl .nil) .nil ?_
  refine .as rfl (by rfl) ?_
  refine .nil (aq_then ?_)
  refine aw_seq ?_
  refine aw_rs ?_
  refine .mv rfl (by rfl) ?_
  refine .bi (r := .bool false) rfl rfl (by simp [binI, hm]) rfl (by rfl) ?_
  refine .nil (aq_then ?_)
  refine aw_cond rfl (fun hx => absurd hx (by simp)) (fun _ => ?_)
  refine aw_skip ?_
  refine aq_then ?_
  refine aw_rs ?_
  refine .mv rfl (by rfl) ?_
  refine .v (f_lenO (by rfl) sl24 rfl) rfl (.c rfl .nil) .nil ?_
  refine .as rfl (by rfl) ?_
  refine .nil (aq_then ?_)
  refine aw_seq ?_
  refine aw_rs ?_
  refine .mv rfl (by rfl) ?_
  refine .mv rfl (by rfl) ?_
  refine .bi (r := .bool (decide (i = a1.length))) rfl rfl (by by_cases e : i = a1.length <;> simp [binI, e, Int.ofNat_inj]) rfl (by rfl) ?_
  refine .nil (aq_then ?_)
  refine aw_cond rfl (fun hx => ?_) (fun hx => ?_)
  · have hie : i = a1.length := by simpa using hx
    subst hie
    refine aw_rs ?_
    refine .mv rfl (by rfl) ?_
    refine .mv rfl (by rfl) ?_
    refine .w (f_appendC (m := a1.length + a2.length) (ys := a2.map eGTx) (xs := a1.map eGTx) (zs := (a1 ++ a2).map eGTx) 2 (by rfl) el24 (by simp) (by simp) (by simp) (by simp) (Nat.le_trans (Nat.mul_le_mul_right _ hb) (by decide)) (Nat.le_trans hb (by decide)) (srcO (o := 1) (n := a2.length) (xs := a2.map eGTx) (by omega) (by rw [List.drop_zero]; exact List.take_of_length_le (by omega)))) rfl (.c rfl (.c rfl .nil)) (.cons rfl (.cons rfl .nil)) (.cons rfl .nil) ?_
    refine .as rfl (by rfl) ?_
    refine .nil (aq_then ?_)
    refine aw_ret ?_
    refine aq_then_ret ?_
    have hr : (a1.take a1.length ++ a2 ++ a1.drop a1.length) = a1 ++ a2 := by simp
    rw [hr, show (a1 ++ a2).length = a1.length + a2.length from List.length_append]
    refine aq_weak (s' := ⟨[(6, .slc 2 0 (a1.length + a2.length) 99)], [(2, .av (.d (.arr 99 (a1.length + a2.length) ((a1 ++ a2).map eGTx)))), (0, .dead), (1, .av (.d (.arr 99 (a2).length ((a2).map eGTx))))], []⟩) id hb0 (.keep rfl .nil) (.keepH rfl (.keepH rfl (.keepH rfl .nil))) rfl (by rfl) ?_
    exact aq_fin1 (.tmp rfl (by rfl) .nil) rfl ⟨rfl, rfl⟩
  · have hlt : i < a1.length := by have : ¬ (i = a1.length) := by simpa using hx
                                   omega
    refine aw_skip ?_
    refine aq_then ?_
    refine aw_exact 0 (o := 0) (n := a1.length) (sz := 99) rfl (hb1 0 _ rfl) (by omega) (fun b base tot cap hB hc ht => ?_)
    refine aw_seq ?_
    refine aw_rs ?_
    refine .mv rfl (by rfl) ?_
    refine .mv rfl (by rfl) ?_
    refine .bi (r := .int .i64 ((a1.length + a2.length : Nat) : Int)) rfl rfl (bi_add hsum (by omega) (by omega)) rfl (by rfl) ?_
    refine .mv rfl (by rfl) ?_
    refine .v (f_capX (by rfl) sl24 rfl) rfl (.c rfl .nil) .nil ?_
    refine .bi (r := .bool (decide (cap < a1.length + a2.length))) rfl rfl (by simp only [binI]; congr 2; exact decide_eq_decide.2 (by omega)) rfl (by rfl) ?_
    refine .nil (aq_then ?_)
    refine aw_cond rfl (fun hx2 => ?_) (fun hx2 => ?_)
    · have hcap : cap < a1.length + a2.length := by simpa using hx2
      obtain ⟨z, hz1, hz2⟩ := zel_ex zlx83
      refine aw_rs ?_
      refine .mv rfl (by rfl) ?_
      refine .mv rfl (by rfl) ?_
      refine .v (f_sliceXE (k1 := .i64) (k2 := .i64) (i := 0) (j := (i : Int)) base i cap (by rfl) sl24 (by simp) (by simp) (by omega) (by omega) (by omega) (by omega) (by omega) (by omega) (by omega)) rfl (.c rfl (.c rfl .nil)) .nil ?_
      refine .mv rfl (by rfl) ?_
      refine .mv rfl (by rfl) ?_
      refine .bi (r := .int .i64 ((a1.length + a2.length : Nat) : Int)) rfl rfl (bi_add hsum (by omega) (by omega)) rfl (by rfl) ?_
      refine .mv rfl (by rfl) ?_
      refine .bi (r := .int .i64 ((a1.length + a2.length - i : Nat) : Int)) rfl rfl (bi_sub (by omega) (by omega) (by omega)) rfl (by rfl) ?_
      refine .w (f_appendZG (o := 0) (n := a1.length) (i := i) (kz := a1.length + a2.length - i) (m := a1.length + a2.length) (z := z) (xs := a1.map eGTx) 2 (by rfl) el24 un3 hz1 hz2 hB el1 hi1 (by omega) (by omega) (by omega) (Nat.le_trans (Nat.mul_le_mul_right _ hb) (by decide)) (Nat.le_trans hb (by decide))) rfl (.c rfl (.c rfl .nil)) (.cons rfl .nil) (.cons rfl .nil) ?_
      refine .as rfl (by rfl) ?_
      refine .nil (aq_then ?_)
      refine aw_rs ?_
      refine .mv rfl (by rfl) ?_
      refine .mv rfl (by rfl) ?_
      refine .v (f_sliceO (k1 := .i64) (k2 := .i64) (i := (i : Int)) (j := ((a1.length + a2.length : Nat) : Int)) (by rfl) sl24 (by simp) (by simp) (by omega) (by omega) (by omega)) rfl (.c rfl (.c rfl .nil)) .nil ?_
      refine .mv rfl (by rfl) ?_
      have zs1 := ins1 (E := a1.map eGTx) (V := a2.map eGTx) (z := z) (i := i) (by omega)
      have zs2 := ins2 (E := a1.map eGTx) (V := a2.map eGTx) (z := z) (i := i) (by omega)
      rw [el1, el2] at zs1 zs2
      refine .w (hn := []) (f_copyO (o := 2) (c := a2.length) (ys := a2.map eGTx) (by rfl) sl24 (by simp only [Int.toNat_natCast]; omega) (by simp only [List.length_append, List.length_take, List.length_replicate, el1]; omega) (by simp only [Int.toNat_natCast, el2]; exact (Nat.min_eq_left (by omega)).symm) (by simp only [Int.toNat_natCast, Nat.zero_add]; exact zs1) (srcO (o := 1) (n := a2.length) (xs := a2.map eGTx) (by omega) (by rw [List.drop_zero]; exact List.take_of_length_le (by omega)))) rfl (.c rfl (.c rfl .nil)) (.cons rfl (.cons rfl .nil)) .nil ?_
      refine .nil (aq_then ?_)
      refine aw_unexact 0 (o := 0) (sz := 99) rfl hB hc ht ?_
      refine aw_rds ?_
      refine .v (f_move (by rfl)) rfl (.c rfl .nil) .nil ?_
      refine .v (f_move (by rfl)) rfl (.c rfl .nil) .nil ?_
      refine .v (f_move (by rfl)) rfl (.c rfl .nil) .nil ?_
      refine .v (f_binI (r := .int .i64 ((i + a2.length : Nat) : Int)) (by rfl) (bi_add (by omega) (by omega) (by omega)) (by rfl)) rfl (.c rfl (.c rfl .nil)) .nil ?_
      refine .v (f_sliceO (k1 := .i64) (k2 := .i64) (i := ((i + a2.length : Nat) : Int)) (j := ((a1.length + a2.length : Nat) : Int)) (by rfl) sl24 (by simp) (by simp) (by omega) (by omega) (by omega)) rfl (.c rfl (.c rfl .nil)) .nil ?_
      refine .v (f_move (by rfl)) rfl (.c rfl .nil) .nil ?_
      refine .v (f_move (by rfl)) rfl (.c rfl .nil) .nil ?_
      refine .v (f_sliceO (k1 := .i64) (k2 := .i64) (i := (i : Int)) (j := ((a1.length : Nat) : Int)) (by rfl) sl24 (by simp) (by simp) (by omega) (by omega) (by omega)) rfl (.c rfl (.c rfl .nil)) .nil ?_
      refine .w (hn := []) (f_copyO (o := 2) (c := a1.length - i) (ys := (a1.map eGTx).drop i) (by rfl) sl24 (by simp only [Int.toNat_natCast]; omega) (by simp only [List.length_append, List.length_take, List.length_replicate, el1, el2]; omega) (by simp only [Int.toNat_natCast, List.length_drop, el1]; exact (Nat.min_eq_left (by omega)).symm) (by simp only [Int.toNat_natCast, Nat.zero_add]; exact zs2) (srcO (o := 0) (n := a1.length) (xs := a1.map eGTx) (by omega) (by simp only [Int.toNat_natCast, Nat.zero_add]; exact List.take_of_length_le (by rw [List.length_drop]; omega)))) rfl (.c rfl (.c rfl .nil)) (.cons rfl (.cons rfl .nil)) .nil ?_
      refine .nil (by kernel_rfl) ?_
      refine aw_rs ?_
      refine .mv rfl (by rfl) ?_
      refine .as rfl (by rfl) ?_
      refine .nil (aq_then ?_)
      refine aw_ret ?_
      refine aq_then_ret ?_
      rw [hlen, hmap]
      refine aq_kill 0 rfl ?_
      refine aq_weak (s' := ⟨[(6, .slc 2 0 (a1.length + a2.length) 99)], [(2, .av (.d (.arr 99 (a1.length + a2.length) ((a1.map eGTx).take i ++ a2.map eGTx ++ (a1.map eGTx).drop i)))), (0, .dead), (1, .av (.d (.arr 99 (a2).length ((a2).map eGTx))))], []⟩) id hb0 (.keep rfl .nil) (.keepH rfl (.keepH rfl (.keepH rfl .nil))) rfl (by rfl) ?_
      exact aq_fin1 (.tmp rfl (by rfl) .nil) rfl ⟨rfl, rfl⟩
    · have hcap : a1.length + a2.length ≤ cap := by have : ¬ (cap < a1.length + a2.length) := by simpa using hx2
                                                    omega
      have hcs : (a1.length + a2.length) * 99 ≤ cap * 99 := Nat.mul_le_mul_right _ hcap
      refine aw_skip ?_
      refine aq_then ?_
      refine aw_rs ?_
      refine .mv rfl (by rfl) ?_
      refine .mv rfl (by rfl) ?_
      refine .mv rfl (by rfl) ?_
      refine .bi (r := .int .i64 ((a1.length + a2.length : Nat) : Int)) rfl rfl (bi_add hsum (by omega) (by omega)) rfl (by rfl) ?_
      refine .v (f_sliceXE (k1 := .i64) (k2 := .i64) (i := 0) (j := ((a1.length + a2.length : Nat) : Int)) base (a1.length + a2.length) cap (by rfl) sl24 (by simp) (by simp) (by omega) (by omega) (by omega) (by omega) (by omega) (by omega) (by omega)) rfl (.c rfl (.c rfl .nil)) .nil ?_
      refine .as rfl (by rfl) ?_
      refine .nil (aq_then ?_)
      refine aw_seq ?_
      refine aw_rs ?_
      refine .mv rfl (by rfl) ?_
      refine .mv rfl (by rfl) ?_
      refine .mv rfl (by rfl) ?_
      refine .mv rfl (by rfl) ?_
      refine .bi (r := .int .i64 ((i + a2.length : Nat) : Int)) rfl rfl (bi_add (by omega) (by omega) (by omega)) rfl (by rfl) ?_
      refine .v (f_sliceXE (k1 := .i64) (k2 := .i64) (i := ((i + a2.length : Nat) : Int)) (j := ((a1.length + a2.length : Nat) : Int)) (base + (i + a2.length) * 99) (a1.length - i) (cap - (i + a2.length)) (by rfl) sl24 (by simp) (by simp) (by omega) (by omega) (by omega) (by omega) (by omega) (by omega) (by omega)) rfl (.c rfl (.c rfl .nil)) .nil ?_
      refine .v (f_overlaps (o := 0) (o1 := 1) (by rfl) Tryd.func113 (by rfl) (by rfl) exn83 exf83 sl24 hB (by omega) (by omega) (by decide)) rfl (.c rfl (.c rfl .nil)) (.cons rfl (.cons rfl .nil)) ?_
      refine .v (f_not (by rfl)) rfl (.c rfl .nil) .nil ?_
      refine .nil (aq_then ?_)
      refine aw_cond rfl (fun _ => ?_) (fun hx => absurd hx (by simp))
      refine aw_rds ?_
      refine .v (f_move (by rfl)) rfl (.c rfl .nil) .nil ?_
      refine .v (f_move (by rfl)) rfl (.c rfl .nil) .nil ?_
      refine .v (f_move (by rfl)) rfl (.c rfl .nil) .nil ?_
      refine .v (f_binI (r := .int .i64 ((i + a2.length : Nat) : Int)) (by rfl) (bi_add (by omega) (by omega) (by omega)) (by rfl)) rfl (.c rfl (.c rfl .nil)) .nil ?_
      refine .v (f_sliceXE (k1 := .i64) (k2 := .i64) (i := ((i + a2.length : Nat) : Int)) (j := ((a1.length + a2.length : Nat) : Int)) (base + (i + a2.length) * 99) (a1.length - i) (cap - (i + a2.length)) (by rfl) sl24 (by simp) (by simp) (by omega) (by omega) (by omega) (by omega) (by omega) (by omega) (by omega)) rfl (.c rfl (.c rfl .nil)) .nil ?_
      refine .v (f_move (by rfl)) rfl (.c rfl .nil) .nil ?_
      refine .v (f_move (by rfl)) rfl (.c rfl .nil) .nil ?_
      refine .v (f_sliceXE (k1 := .i64) (k2 := .i64) (i := (i : Int)) (j := ((a1.length + a2.length : Nat) : Int)) (base + i * 99) (a1.length + a2.length - i) (cap - i) (by rfl) sl24 (by simp) (by simp) (by omega) (by omega) (by omega) (by omega) (by omega) (by omega) (by omega)) rfl (.c rfl (.c rfl .nil)) .nil ?_
      refine .w (hn := []) (f_copyX (o := 0) (n := a1.length) (p := i + a2.length) (q := i) (c := a1.length - i) (n' := a1.length + a2.length) (xs := a1.map eGTx) (zs := (a1.map eGTx).take (i + a2.length) ++ (a1.map eGTx).drop i) (base + (i + a2.length) * 99) (base + i * 99) (by rfl) sl24 hB el1 (Nat.min_eq_right (by omega)).symm rfl rfl (by omega) (by omega) (by omega) (by rw [show i + a2.length + (a1.length - i) = a1.length + a2.length from by omega]; omega) (by omega) (by rw [List.take_of_length_le (l := (a1.map eGTx).drop i) (by rw [List.length_drop, el1]; exact Nat.le_refl _)])) rfl (.c rfl (.c rfl .nil)) (.cons rfl .nil) .nil ?_
      refine .nil (by kernel_rfl) ?_
      refine aw_unexact 0 (o := 0) (sz := 99) rfl hB hcap ht ?_
      have zs3 := ins3 (E := a1.map eGTx) (V := a2.map eGTx) (i := i) (by omega)
      rw [el2] at zs3
      refine aw_rs ?_
      refine .mv rfl (by rfl) ?_
      refine .mv rfl (by rfl) ?_
      refine .v (f_sliceO (k1 := .i64) (k2 := .i64) (i := (i : Int)) (j := ((a1.length + a2.length : Nat) : Int)) (by rfl) sl24 (by simp) (by simp) (by omega) (by omega) (by omega)) rfl (.c rfl (.c rfl .nil)) .nil ?_
      refine .mv rfl (by rfl) ?_
      refine .w (hn := []) (f_copyO (o := 0) (c := a2.length) (ys := a2.map eGTx) (by rfl) sl24 (by simp only [Int.toNat_natCast]; omega) (by simp only [List.length_append, List.length_take, List.length_drop, el1]; omega) (by simp only [Int.toNat_natCast, el2]; exact (Nat.min_eq_left (by omega)).symm) (by simp only [Int.toNat_natCast, Nat.zero_add]; exact zs3) (srcO (o := 1) (n := a2.length) (xs := a2.map eGTx) (by omega) (by rw [List.drop_zero]; exact List.take_of_length_le (by omega)))) rfl (.c rfl (.c rfl .nil)) (.cons rfl (.cons rfl .nil)) .nil ?_
      refine .nil (aq_then ?_)
      refine aw_rs ?_
      refine .mv rfl (by rfl) ?_
      refine .as rfl (by rfl) ?_
      refine .nil (aq_then ?_)
      refine aw_ret ?_
      refine aq_then_ret ?_
      rw [hlen, hmap]
      refine aq_anewE 6 2 rfl rfl rfl rfl (by omega) rfl ?_
      refine aq_weak (s' := ⟨[(6, .slc 2 0 (a1.length + a2.length) 99)], [(2, .av (.d (.arr 99 (a1.length + a2.length) ((a1.map eGTx).take i ++ a2.map eGTx ++ (a1.map eGTx).drop i)))), (0, .dead), (1, .av (.d (.arr 99 (a2).length ((a2).map eGTx))))], []⟩) id hb0 (.keep rfl .nil) (.keepH rfl (.keepH rfl (.keepH rfl .nil))) rfl (by rfl) ?_
      exact aq_fin1 (.tmp rfl (by rfl) .nil) rfl ⟨rfl, rfl⟩

def F100_Clone (n : Nat) (a0 : List GLine) : Option (List GLine) := if a0.length ≤ 1073741824 then some a0 else none
theorem F100_Clone_ok {n : Nat} {a0 r : List GLine} (h : F100_Clone n a0 = some r) :
    ACall Tryd.prog GS 100 [.d (eL72 a0)] [] (fun r' hp' => r' = .slc 0 0 (r).length 33 ∧ hp' = [(0, .av (.d (.arr 33 (r).length ((r).map eGLine))))]) := by
  refine acall_of_body mixed Tryd.func100 rfl (by rfl) ?_
  intro C hro hgl hb0
  unfold F100_Clone at h
  obtain ⟨hb, h⟩ := ifp h
  obtain rfl := Option.some.inj h
  refine aw_rs ?_
  refine .as rfl (by rfl) ?_
  refine .nil (aq_then ?_)
  refine aw_seq ?_
  refine aw_rs ?_
  refine .mv rfl (by rfl) ?_
  refine .eqNil (by rfl) sl72 rfl rfl rfl (fun hnil => ?_) ?_
  · obtain rfl := List.map_eq_nil_iff.1 hnil
    refine .nil (aq_then ?_)
    refine aw_cond rfl (fun _ => ?_) (fun hx => absurd hx (by simp))
    refine aw_rs ?_
    refine .as rfl (by rfl) ?_
    refine .nil (aq_then ?_)
    refine aw_ret ?_
    refine aq_then_ret ?_
    refine aq_adopt 2 0 33 rfl rfl ?_
    refine aq_weak (s' := ⟨[(2, .slc 0 0 ([] : List GLine).length 33)], [(0, .av (.d (.arr 33 ([] : List GLine).length (([] : List GLine).map eGLine))))], []⟩) id hb0 (.keep rfl .nil) (.keep rfl .nil) rfl (by rfl) ?_
    exact aq_fin1 (.tmp rfl (by rfl) .nil) rfl ⟨rfl, rfl⟩
  · refine .nil (aq_then ?_)
    refine aw_cond rfl (fun hx => absurd hx (by simp)) (fun _ => ?_)
    refine aw_skip ?_
    refine aq_then ?_
    refine aw_rs ?_
    refine .n (f_buildS0 1 (by rfl) el72) rfl .nil rfl ?_
    refine .mv rfl (by rfl) ?_
    refine .w (f_appendC (m := a0.length) (ys := (a0 : List GLine).map eGLine) (xs := ([] : List D)) (zs := (a0).map eGLine) 0 (by rfl) el72 (by simp) (by simp) (by simp) (by simp) (Nat.le_trans (Nat.mul_le_mul_right _ hb) (by decide)) (Nat.le_trans hb (by decide)) srcD) rfl (.c rfl (.c rfl .nil)) (.cons rfl .nil) (.cons rfl .nil) ?_
    refine .as rfl (by rfl) ?_
    refine .nil (aq_then ?_)
    refine aw_ret ?_
    refine aq_weak (s' := ⟨[(2, .slc 0 0 (a0).length 33)], [(0, .av (.d (.arr 33 (a0).length ((a0).map eGLine))))], []⟩) id hb0 (.keep rfl .nil) (.keep rfl .nil) rfl (by rfl) ?_
    exact aq_fin1 (.tmp rfl (by rfl) .nil) rfl ⟨rfl, rfl⟩

theorem zlx121 : ((zelB Tryd.prog 72).map fun cs => cs.all leafV) = some true := by kernel_rfl
def F121_Delete (n : Nat) (a0 a1 : Int) (a2 : List GLine) : Option (List GLine) := if 0 ≤ a0 ∧ a0 < a1 ∧ a1 ≤ a2.length ∧ a2.length ≤ 1073741824 then some (a2.take a0.toNat ++ a2.drop a1.toNat) else none
theorem F121_Delete_ok {n : Nat} {a0 a1 : Int} {a2 r : List GLine} (h : F121_Delete n a0 a1 a2 = some r) :
    ACall Tryd.prog GS 121 [.slc 0 0 (a2).length 33, .d (.val (.int .i64 a0)), .d (.val (.int .i64 a1))] [(0, .av (.d (.arr 33 (a2).length ((a2).map eGLine))))]
      (fun r' hp' => r' = .slc 1 0 (r).length 33 ∧ hp' = [(1, .av (.d (.arr 33 (r).length ((r).map eGLine)))), (0, .dead)]) := by
  refine acall_of_body1 mixed Tryd.func121 rfl (by rfl) ?_
  intro C hro hgl hb0 hb1
  unfold F121_Delete at h
  obtain ⟨⟨h0, h1, h2, hb⟩, h⟩ := ifp h
  obtain rfl := Option.some.inj h
  obtain ⟨i, rfl⟩ := Int.eq_ofNat_of_zero_le h0
  obtain ⟨j, rfl⟩ := Int.eq_ofNat_of_zero_le (show 0 ≤ a1 by omega)
  have hij : i < j := by omega
  have hj : j ≤ a2.length := by omega
  simp only [Int.toNat_natCast] at *
  have el2 : (a2.map eGLine).length = a2.length := List.length_map _
  have hmap : (a2.take i ++ a2.drop j).map eGLine = (a2.map eGLine).take i ++ (a2.map eGLine).drop j := by simp only [List.map_append, List.map_take, List.map_drop]
  obtain ⟨m, hm⟩ : ∃ m, i + (a2.length - j) = m := ⟨_, rfl⟩
  have hlen : (a2.take i ++ a2.drop j).length = m := by simp only [List.length_append, List.length_take, List.length_drop]; omega
  refine aw_exact 0 (o := 0) (n := a2.length) (sz := 33) rfl (hb1 0 _ rfl) (by omega) (fun b base tot cap hB hc ht => ?_)
  have hcs : a2.length * 33 ≤ cap * 33 := Nat.mul_le_mul_right _ hc
  refine aw_rs ?_
  refine .as rfl (by rfl) ?_
  refine .nil (aq_then ?_)
  refine aw_rs ?_
  refine .mv rfl (by rfl) ?_
  refine .mv rfl (by rfl) ?_
  refine .mv rfl (by rfl) ?_
  refine .mv rfl (by rfl) ?_
  refine .v (f_lenX (by rfl) sl72 rfl) rfl (.c rfl .nil) .nil ?_
  refine .v (f_slice3X (i := i) (j := j) (m := a2.length) (by rfl) sl72 (by omega) (by omega) (by omega) (by omega)) rfl (.c rfl (.c rfl (.c rfl (.c rfl .nil)))) .nil ?_
  refine .nil (aq_then ?_)
  refine aw_seq ?_
  refine aw_rs ?_
  refine .mv rfl (by rfl) ?_
  refine .mv rfl (by rfl) ?_
  refine .bi (r := .bool false) rfl rfl (by have : ¬ ((i : Int) = (j : Int)) := by omega
                                            simp [binI, this]) rfl (by rfl) ?_
  refine .nil (aq_then ?_)
  refine aw_cond rfl (fun hx => absurd hx (by simp)) (fun _ => ?_)
  refine aw_skip ?_
  refine aq_then ?_
  refine aw_rs ?_
  refine .mv rfl (by rfl) ?_
  refine .v (f_lenX (by rfl) sl72 rfl) rfl (.c rfl .nil) .nil ?_
  refine .as rfl (by rfl) ?_
  refine .nil (aq_then ?_)
  have hsrc : a2.length - j = 0 ∨ (if cap = j then base else base + j * 33) = base + j * 33 := by
    by_cases e : cap = j
    · left; omega
    · right; rw [if_neg e]
  refine aw_rds ?_
  refine .v (f_move (by rfl)) rfl (.c rfl .nil) .nil ?_
  refine .v (f_move (by rfl)) rfl (.c rfl .nil) .nil ?_
  refine .v (f_sliceXE (k1 := .i64) (k2 := .i64) (i := 0) (j := (i : Int)) base i cap (by rfl) sl72 (by simp) (by simp) (by omega) (by omega) (by omega) (by omega) (by omega) (by omega) (by omega)) rfl (.c rfl (.c rfl .nil)) .nil ?_
  refine .v (f_move (by rfl)) rfl (.c rfl .nil) .nil ?_
  refine .v (f_move (by rfl)) rfl (.c rfl .nil) .nil ?_
  refine .v (f_sliceXF (i := j) (if cap = j then base else base + j * 33) (a2.length - j) (cap - j) (by rfl) sl72 (by omega) (by omega) rfl rfl rfl) rfl (.c rfl (.c rfl .nil)) .nil ?_
  refine .w (hn := []) (f_appendX (o := 0) (n := a2.length) (q := j) (m := m) (xs := a2.map eGLine) (by rfl) el72 hB el2 hsrc (by omega) (by omega) (by omega) hm rfl) rfl (.c rfl (.c rfl .nil)) (.cons rfl .nil) .nil ?_
  refine .v (f_assign (by rfl)) rfl (.c rfl .nil) .nil ?_
  refine .nil (by kernel_rfl) ?_
  refine aw_rs ?_
  refine .mv rfl (by rfl) ?_
  refine .mv rfl (by rfl) ?_
  refine .v (f_lenX (by rfl) sl72 rfl) rfl (.c rfl .nil) .nil ?_
  refine .mv rfl (by rfl) ?_
  refine .v (f_sliceXE (k1 := .i64) (k2 := .i64) (i := (m : Int)) (j := (a2.length : Int)) (base + m * 33) (a2.length - m) (cap - m) (by rfl) sl72 (by simp) (by simp) (by omega) (by omega) (by omega) (by omega) (by omega) (by omega) (by omega)) rfl (.c rfl (.c rfl (.c rfl .nil))) .nil ?_
  refine .s (f_clearX (o := 0) (n := a2.length) (p := m) zlx121 el72 hB (by simp only [List.length_append, List.length_take, List.length_drop, el2]; omega) rfl (by omega) (by rw [show m + (a2.length - m) = a2.length from by omega]; omega) (by omega)) rfl (.c rfl .nil) (.cons rfl .nil) ?_
  refine .nil (aq_then ?_)
  refine aw_rs ?_
  refine .mv rfl (by rfl) ?_
  refine .as rfl (by rfl) ?_
  refine .nil (aq_then ?_)
  refine aw_ret ?_
  refine aq_unexact 6 (o := 0) (sz := 33) rfl hB (by omega) ht ?_
  have zs1 := del1 (E := a2.map eGLine) (i := i) (j := j) (m := m) (by omega) (by omega) (by omega)
  rw [el2] at zs1
  rw [hlen, hmap]
  refine aq_anewE (zs := (a2.map eGLine).take i ++ (a2.map eGLine).drop j) 6 1 rfl rfl rfl (by rw [List.drop_zero]; exact zs1) (by omega) rfl ?_
  refine aq_weak (s' := ⟨[(6, .slc 1 0 m 33)], [(1, .av (.d (.arr 33 m ((a2.map eGLine).take i ++ (a2.map eGLine).drop j)))), (0, .dead)], []⟩) id hb0 (.keep rfl .nil) (.keepH rfl (.keepH rfl .nil)) rfl (by rfl) ?_
  exact aq_fin1 (.tmp rfl (by rfl) .nil) rfl ⟨rfl, rfl⟩

theorem zlx122 : ((zelB Tryd.prog 72).map fun cs => cs.all leafV) = some true := by kernel_rfl
theorem exf122 : Extern.find Tryd.f148 = some (Extern.SlicesOverlaps.overlaps #[72, 72] #[4]) := by kernel_rfl
theorem exn122 : Extern.findNext Tryd.f148 = none := by kernel_rfl
def F122_Insert (n : Nat) (a0 : Int) (a1 a2 : List GLine) : Option (List GLine) := if 0 ≤ a0 ∧ a0 ≤ a1.length ∧ a2.length = 1 ∧ a1.length + a2.length ≤ 1073741824 then some (a1.take a0.toNat ++ a2 ++ a1.drop a0.toNat) else none
theorem F122_Insert_ok {n : Nat} {a0 : Int} {a1 a2 r : List GLine} (h : F122_Insert n a0 a1 a2 = some r) :
    ACall Tryd.prog GS 122 [.slc 0 0 (a1).length 33, .d (.val (.int .i64 a0)), .slc 1 0 (a2).length 33] [(0, .av (.d (.arr 33 (a1).length ((a1).map eGLine)))), (1, .av (.d (.arr 33 (a2).length ((a2).map eGLine))))]
      (fun r' hp' => r' = .slc 2 0 (r).length 33 ∧ hp' = [(2, .av (.d (.arr 33 (r).length ((r).map eGLine)))), (0, .dead), (1, .av (.d (.arr 33 (a2).length ((a2).map eGLine))))]) := by
  refine acall_of_body1 mixed Tryd.func122 rfl (by rfl) ?_
  intro C hro hgl hb0 hb1
  unfold F122_Insert at h
  obtain ⟨⟨h0, h1, hm, hb⟩, h⟩ := ifp h
  obtain rfl := Option.some.inj h
  obtain ⟨i, rfl⟩ := Int.eq_ofNat_of_zero_le h0
  have hi1 : i ≤ a1.length := by omega
  have hsum : (((a1).length : Int) + ((a2).length : Int)) = ((a1.length + a2.length : Nat) : Int) := by omega
  have hlen : ((a1.take i ++ a2 ++ a1.drop i).length) = a1.length + a2.length := by simp only [List.length_append, List.length_take, List.length_drop]; omega
  have hmap : (a1.take i ++ a2 ++ a1.drop i).map eGLine = (a1.map eGLine).take i ++ a2.map eGLine ++ (a1.map eGLine).drop i := by simp only [List.map_append, List.map_take, List.map_drop]
  have el1 : (a1.map eGLine).length = a1.length := List.length_map _
  have el2 : (a2.map eGLine).length = a2.length := List.length_map _
  simp only [Int.toNat_natCast] at *
  refine aw_rs ?_
  refine .as rfl (by rfl) ?_
  refine .nil (aq_then ?_)
  refine aw_rs ?_
  refine .mv rfl (by rfl) ?_
  refine .mv rfl (by rfl) ?_
  refine .v (f_sliceO (k1 := .i64) (k2 := .i64) (i := (i : Int)) (j := ((a1).length : Int)) (by rfl) sl72 (by simp) (by simp) (by omega) (by omega) (by omega)) rfl (.c rfl (.c rfl .nil)) .nil ?_
  refine .nil (aq_then ?_)
  refine aw_rs ?_
  refine .mv rfl (by rfl) ?_
  refine .v (f_lenO (by rfl) sl72 rfl) rfl (.c rfl .nil) .nil ?_
  refine .as rfl (by rfl) ?_
  refine .nil (aq_then ?_)
  refine aw_seq ?_
  refine aw_rs ?_
  refine .mv rfl (by rfl) ?_
  refine .bi (r := .bool false) rfl rfl (by simp [binI, hm]) rfl (by rfl) ?_
  refine .nil (aq_then ?_)
  refine aw_cond rfl (fun hx => absurd hx (by simp)) (fun _ => ?_)
  refine aw_skip ?_
  refine aq_then ?_
  refine aw_rs ?_
  refine .mv rfl (by rfl) ?_
  refine .v (f_lenO (by rfl) sl72 rfl) rfl (.c rfl .nil) .nil ?_
  refine .as rfl (by rfl) ?_
  refine .nil (aq_then ?_)
  refine aw_seq ?_
  refine aw_rs ?_
  refine .mv rfl (by rfl) ?_
  refine .mv rfl (by rfl) ?_
  refine .bi (r := .bool (decide (i = a1.length))) rfl rfl (by by_cases e : i = a1.length <;> simp [binI, e, Int.ofNat_inj]) rfl (by rfl) ?_
  refine .nil (aq_then ?_)
  refine aw_cond rfl (fun hx => ?_) (fun hx => ?_)
  · have hie : i = a1.length := by simpa using hx
    subst hie
    refine aw_rs ?_
    refine .mv rfl (by rfl) ?_
    refine .mv rfl (by rfl) ?_
    refine .w (f_appendC (m := a1.length + a2.length) (ys := a2.map eGLine) (xs := a1.map eGLine) (zs := (a1 ++ a2).map eGLine) 2 (by rfl) el72 (by simp) (by simp) (by simp) (by simp) (Nat.le_trans (Nat.mul_le_mul_right _ hb) (by decide)) (Nat.le_trans hb (by decide)) (srcO (o := 1) (n := a2.length) (xs := a2.map eGLine) (by omega) (by rw [List.drop_zero]; exact List.take_of_length_le (by omega)))) rfl (.c rfl (.c rfl .nil)) (.cons rfl (.cons rfl .nil)) (.cons rfl .nil) ?_
    refine .as rfl (by rfl) ?_
    refine .nil (aq_then ?_)
    refine aw_ret ?_
    refine aq_then_ret ?_
    have hr : (a1.take a1.length ++ a2 ++ a1.drop a1.length) = a1 ++ a2 := by simp
    rw [hr, show (a1 ++ a2).length = a1.length + a2.length from List.length_append]
    refine aq_weak (s' := ⟨[(6, .slc 2 0 (a1.length + a2.length) 33)], [(2, .av (.d (.arr 33 (a1.length + a2.length) ((a1 ++ a2).map eGLine)))), (0, .dead), (1, .av (.d (.arr 33 (a2).length ((a2).map eGLine))))], []⟩) id hb0 (.keep rfl .nil) (.keepH rfl (.keepH rfl (.keepH rfl .nil))) rfl (by rfl) ?_
    exact aq_fin1 (.tmp rfl (by rfl) .nil) rfl ⟨rfl, rfl⟩
  · have hlt : i < a1.length := by have : ¬ (i = a1.length) := by simpa using hx
                                   omega
    refine aw_skip ?_
    refine aq_then ?_
    refine aw_exact 0 (o := 0) (n := a1.length) (sz := 33) rfl (hb1 0 _ rfl) (by omega) (fun b base tot cap hB hc ht => ?_)
    refine aw_seq ?_
    refine aw_rs ?_
    refine .mv rfl (by rfl) ?_
    refine .mv rfl (by rfl) ?_
    refine .bi (r := .int .i64 ((a1.length + a2.length : Nat) : Int)) rfl rfl (bi_add hsum (by omega) (by omega)) rfl (by rfl) ?_
    refine .mv rfl (by rfl) ?_
    refine .v (f_capX (by rfl) sl72 rfl) rfl (.c rfl .nil) .nil ?_
    refine .bi (r := .bool (decide (cap < a1.length + a2.length))) rfl rfl (by simp only [binI]; congr 2; exact decide_eq_decide.2 (by omega)) rfl (by rfl) ?_
    refine .nil (aq_then ?_)
    refine aw_cond rfl (fun hx2 => ?_) (fun hx2 => ?_)
    · have hcap : cap < a1.length + a2.length := by simpa using hx2
      obtain ⟨z, hz1, hz2⟩ := zel_ex zlx122
      refine aw_rs ?_
      refine .mv rfl (by rfl) ?_
      refine .mv rfl (by rfl) ?_
      refine .v (f_sliceXE (k1 := .i64) (k2 := .i64) (i := 0) (j := (i : Int)) base i cap (by rfl) sl72 (by simp) (by simp) (by omega) (by omega) (by omega) (by omega) (by omega) (by omega) (by omega)) rfl (.c rfl (.c rfl .nil)) .nil ?_
      refine .mv rfl (by rfl) ?_
      refine .mv rfl (by rfl) ?_
      refine .bi (r := .int .i64 ((a1.length + a2.length : Nat) : Int)) rfl rfl (bi_add hsum (by omega) (by omega)) rfl (by rfl) ?_
      refine .mv rfl (by rfl) ?_
      refine .bi (r := .int .i64 ((a1.length + a2.length - i : Nat) : Int)) rfl rfl (bi_sub (by omega) (by omega) (by omega)) rfl (by rfl) ?_
      refine .w (f_appendZG (o := 0) (n := a1.length) (i := i) (kz := a1.length + a2.length - i) (m := a1.length + a2.length) (z := z) (xs := a1.map eGLine) 2 (by rfl) el72 un3 hz1 hz2 hB el1 hi1 (by omega) (by omega) (by omega) (Nat.le_trans (Nat.mul_le_mul_right _ hb) (by decide)) (Nat.le_trans hb (by decide))) rfl (.c rfl (.c rfl .nil)) (.cons rfl .nil) (.cons rfl .nil) ?_
      refine .as rfl (by rfl) ?_
      refine .nil (aq_then ?_)
      refine aw_rs ?_
      refine .mv rfl (by rfl) ?_
      refine .mv rfl (by rfl) ?_
      refine .v (f_sliceO (k1 := .i64) (k2 := .i64) (i := (i : Int)) (j := ((a1.length + a2.length : Nat) : Int)) (by rfl) sl72 (by simp) (by simp) (by omega) (by omega) (by omega)) rfl (.c rfl (.c rfl .nil)) .nil ?_
      refine .mv rfl (by rfl) ?_
      have zs1 := ins1 (E := a1.map eGLine) (V := a2.map eGLine) (z := z) (i := i) (by omega)
      have zs2 := ins2 (E := a1.map eGLine) (V := a2.map eGLine) (z := z) (i := i) (by omega)
      rw [el1, el2] at zs1 zs2
      refine .w (hn := []) (f_copyO (o := 2) (c := a2.length) (ys := a2.map eGLine) (by rfl) sl72 (by simp only [Int.toNat_natCast]; omega) (by simp only [List.length_append, List.length_take, List.length_replicate, el1]; omega) (by simp only [Int.toNat_natCast, el2]; exact (Nat.min_eq_left (by omega)).symm) (by simp only [Int.toNat_natCast, Nat.zero_add]; exact zs1) (srcO (o := 1) (n := a2.length) (xs := a2.map eGLine) (by omega) (by rw [List.drop_zero]; exact List.take_of_length_le (by omega)))) rfl (.c rfl (.c rfl .nil)) (.cons rfl (.cons rfl .nil)) .nil ?_
      refine .nil (aq_then ?_)
      refine aw_unexact 0 (o := 0) (sz := 33) rfl hB hc ht ?_
      refine aw_rds ?_
      refine .v (f_move (by rfl)) rfl (.c rfl .nil) .nil ?_
      refine .v (f_move (by rfl)) rfl (.c rfl .nil) .nil ?_
      refine .v (f_move (by rfl)) rfl (.c rfl .nil) .nil ?_
      refine .v (f_binI (r := .int .i64 ((i + a2.length : Nat) : Int)) (by rfl) (bi_add (by omega) (by omega) (by omega)) (by rfl)) rfl (.c rfl (.c rfl .nil)) .nil ?_
      refine .v (f_sliceO (k1 := .i64) (k2 := .i64) (i := ((i + a2.length : Nat) : Int)) (j := ((a1.length + a2.length : Nat) : Int)) (by rfl) sl72 (by simp) (by simp) (by omega) (by omega) (by omega)) rfl (.c rfl (.c rfl .nil)) .nil ?_
      refine .v (f_move (by rfl)) rfl (.c rfl .nil) .nil ?_
      refine .v (f_move (by rfl)) rfl (.c rfl .nil) .nil ?_
      refine .v (f_sliceO (k1 := .i64) (k2 := .i64) (i := (i : Int)) (j := ((a1.length : Nat) : Int)) (by rfl) sl72 (by simp) (by simp) (by omega) (by omega) (by omega)) rfl (.c rfl (.c rfl .nil)) .nil ?_
      refine .w (hn := []) (f_copyO (o := 2) (c := a1.length - i) (ys := (a1.map eGLine).drop i) (by rfl) sl72 (by simp only [Int.toNat_natCast]; omega) (by simp only [List.length_append, List.length_take, List.length_replicate, el1, el2]; omega) (by simp only [Int.toNat_natCast, List.length_drop, el1]; exact (Nat.min_eq_left (by omega)).symm) (by simp only [Int.toNat_natCast, Nat.zero_add]; exact zs2) (srcO (o := 0) (n := a1.length) (xs := a1.map eGLine) (by omega) (by simp only [Int.toNat_natCast, Nat.zero_add]; exact List.take_of_length_le (by rw [List.length_drop]; omega)))) rfl (.c rfl (.c rfl .nil)) (.cons rfl (.cons rfl .nil)) .nil ?_
      refine .nil (by kernel_rfl) ?_
      refine aw_rs ?_
      refine .mv rfl (by rfl) ?_
      refine .as rfl (by rfl) ?_
      refine .nil (aq_then ?_)
      refine aw_ret ?_
      refine aq_then_ret ?_
      rw [hlen, hmap]
      refine aq_kill 0 rfl ?_
      refine aq_weak (s' := ⟨[(6, .slc 2 0 (a1.length + a2.length) 33)], [(2, .av (.d (.arr 33 (a1.length + a2.length) ((a1.map eGLine).take i ++ a2.map eGLine ++ (a1.map eGLine).drop i)))), (0, .dead), (1, .av (.d (.arr 33 (a2).length ((a2).map eGLine))))], []⟩) id hb0 (.keep rfl .nil) (.keepH rfl (.keepH rfl (.keepH rfl .nil))) rfl (by rfl) ?_
      exact aq_fin1 (.tmp rfl (by rfl) .nil) rfl ⟨rfl, rfl⟩
    · have hcap : a1.length + a2.length ≤ cap := by have : ¬ (cap < a1.length + a2.length) := by simpa using hx2
                                                    omega
      have hcs : (a1.length + a2.length) * 33 ≤ cap * 33 := Nat.mul_le_mul_right _ hcap
      refine aw_skip ?_
      refine aq_then ?_
      refine aw_rs ?_
      refine .mv rfl (by rfl) ?_
      refine .mv rfl (by rfl) ?_
      refine .mv rfl (by rfl) ?_
      refine .bi (r := .int .i64 ((a1.length + a2.length : Nat) : Int)) rfl rfl (bi_add hsum (by omega) (by omega)) rfl (by rfl) ?_
      refine .v (f_sliceXE (k1 := .i64) (k2 := .i64) (i := 0) (j := ((a1.length + a2.length : Nat) : Int)) base (a1.length + a2.length) cap (by rfl) sl72 (by simp) (by simp) (by omega) (by omega) (by omega) (by omega) (by omega) (by omega) (by omega)) rfl (.c rfl (.c rfl .nil)) .nil ?_
      refine .as rfl (by rfl) ?_
      refine .nil (aq_then ?_)
      refine aw_seq ?_
      refine aw_rs ?_
      refine .mv rfl (by rfl) ?_
      refine .mv rfl (by rfl) ?_
      refine .mv rfl (by rfl) ?_
      refine .mv rfl (by rfl) ?_
      refine .bi (r := .int .i64 ((i + a2.length : Nat) : Int)) rfl rfl (bi_add (by omega) (by omega) (by omega)) rfl (by rfl) ?_
      refine .v (f_sliceXE (k1 := .i64) (k2 := .i64) (i := ((i + a2.length : Nat) : Int)) (j := ((a1.length + a2.length : Nat) : Int)) (base + (i + a2.length) * 33) (a1.length - i) (cap - (i + a2.length)) (by rfl) sl72 (by simp) (by simp) (by omega) (by omega) (by omega) (by omega) (by omega) (by omega) (by omega)) rfl (.c rfl (.c rfl .nil)) .nil ?_
      refine .v (f_overlaps (o := 0) (o1 := 1) (by rfl) Tryd.func148 (by rfl) (by rfl) exn122 exf122 sl72 hB (by omega) (by omega) (by decide)) rfl (.c rfl (.c rfl .nil)) (.cons rfl (.cons rfl .nil)) ?_
      refine .v (f_not (by rfl)) rfl (.c rfl .nil) .nil ?_
      refine .nil (aq_then ?_)
      refine aw_cond rfl (fun _ => ?_) (fun hx => absurd hx (by simp))
      refine aw_rds ?_
      refine .v (f_move (by rfl)) rfl (.c rfl .nil) .nil ?_
      refine .v (f_move (by rfl)) rfl (.c rfl .nil) .nil ?_
      refine .v (f_move (by rfl)) rfl (.c rfl .nil) .nil ?_
      refine .v (f_binI (r := .int .i64 ((i + a2.length : Nat) : Int)) (by rfl) (bi_add (by omega) (by omega) (by omega)) (by rfl)) rfl (.c rfl (.c rfl .nil)) .nil ?_
      refine .v (f_sliceXE (k1 := .i64) (k2 := .i64) (i := ((i + a2.length : Nat) : Int)) (j := ((a1.length + a2.length : Nat) : Int)) (base + (i + a2.length) * 33) (a1.length - i) (cap - (i + a2.length)) (by rfl) sl72 (by simp) (by simp) (by omega) (by omega) (by omega) (by omega) (by omega) (by omega) (by omega)) rfl (.c rfl (.c rfl .nil)) .nil ?_
      refine .v (f_move (by rfl)) rfl (.c rfl .nil) .nil ?_
      refine .v (f_move (by rfl)) rfl (.c rfl .nil) .nil ?_
      refine .v (f_sliceXE (k1 := .i64) (k2 := .i64) (i := (i : Int)) (j := ((a1.length + a2.length : Nat) : Int)) (base + i * 33) (a1.length + a2.length - i) (cap - i) (by rfl) sl72 (by simp) (by simp) (by omega) (by omega) (by omega) (by omega) (by omega) (by omega) (by omega)) rfl (.c rfl (.c rfl .nil)) .nil ?_
      refine .w (hn := []) (f_copyX (o := 0) (n := a1.length) (p := i + a2.length) (q := i) (c := a1.length - i) (n' := a1.length + a2.length) (xs := a1.map eGLine) (zs := (a1.map eGLine).take (i + a2.length) ++ (a1.map eGLine).drop i) (base + (i + a2.length) * 33) (base + i * 33) (by rfl) sl72 hB el1 (Nat.min_eq_right (by omega)).symm rfl rfl (by omega) (by omega) (by omega) (by rw [show i + a2.length + (a1.length - i) = a1.length + a2.length from by omega]; omega) (by omega) (by rw [List.take_of_length_le (l := (a1.map eGLine).drop i) (by rw [List.length_drop, el1]; exact Nat.le_refl _)])) rfl (.c rfl (.c rfl .nil)) (.cons rfl .nil) .nil ?_
      refine .nil (by kernel_rfl) ?_
      refine aw_unexact 0 (o := 0) (sz := 33) rfl hB hcap ht ?_
      have zs3 := ins3 (E := a1.map eGLine) (V := a2.map eGLine) (i := i) (by omega)
      rw [el2] at zs3
      refine aw_rs ?_
      refine .mv rfl (by rfl) ?_
      refine .mv rfl (by rfl) ?_
      refine .v (f_sliceO (k1 := .i64) (k2 := .i64) (i := (i : Int)) (j := ((a1.length + a2.length : Nat) : Int)) (by rfl) sl72 (by simp) (by simp) (by omega) (by omega) (by omega)) rfl (.c rfl (.c rfl .nil)) .nil ?_
      refine .mv rfl (by rfl) ?_
      refine .w (hn := []) (f_copyO (o := 0) (c := a2.length) (ys := a2.map eGLine) (by rfl) sl72 (by simp only [Int.toNat_natCast]; omega) (by simp only [List.length_append, List.length_take, List.length_drop, el1]; omega) (by simp only [Int.toNat_natCast, el2]; exact (Nat.min_eq_left (by omega)).symm) (by simp only [Int.toNat_natCast, Nat.zero_add]; exact zs3) (srcO (o := 1) (n := a2.length) (xs := a2.map eGLine) (by omega) (by rw [List.drop_zero]; exact List.take_of_length_le (by omega)))) rfl (.c rfl (.c rfl .nil)) (.cons rfl (.cons rfl .nil)) .nil ?_
      refine .nil (aq_then ?_)
      refine aw_rs ?_
      refine .mv rfl (by rfl) ?_
      refine .as rfl (by rfl) ?_
      refine .nil (aq_then ?_)
      refine aw_ret ?_
      refine aq_then_ret ?_
      rw [hlen, hmap]
      refine aq_anewE 6 2 rfl rfl rfl rfl (by omega) rfl ?_
      refine aq_weak (s' := ⟨[(6, .slc 2 0 (a1.length + a2.length) 33)], [(2, .av (.d (.arr 33 (a1.length + a2.length) ((a1.map eGLine).take i ++ a2.map eGLine ++ (a1.map eGLine).drop i)))), (0, .dead), (1, .av (.d (.arr 33 (a2).length ((a2).map eGLine))))], []⟩) id hb0 (.keep rfl .nil) (.keepH rfl (.keepH rfl (.keepH rfl .nil))) rfl (by rfl) ?_
      exact aq_fin1 (.tmp rfl (by rfl) .nil) rfl ⟨rfl, rfl⟩

def F131_Clone (n : Nat) (a0 : List Int) : Option (List Int) := if a0.length ≤ 1073741824 then some a0 else none
theorem F131_Clone_ok {n : Nat} {a0 r : List Int} (h : F131_Clone n a0 = some r) :
    ACall Tryd.prog GS 131 [.d (eL139 a0)] [] (fun r' hp' => r' = .slc 0 0 (r).length 1 ∧ hp' = [(0, .av (.d (.arr 1 (r).length ((r).map eI_u8))))]) := by
  refine acall_of_body mixed Tryd.func131 rfl (by rfl) ?_
  intro C hro hgl hb0
  unfold F131_Clone at h
  obtain ⟨hb, h⟩ := ifp h
  obtain rfl := Option.some.inj h
  refine aw_rs ?_
  refine .as rfl (by rfl) ?_
  refine .nil (aq_then ?_)
  refine aw_seq ?_
  refine aw_rs ?_
  refine .mv rfl (by rfl) ?_
  refine .eqNil (by rfl) sl139 rfl rfl rfl (fun hnil => ?_) ?_
  · obtain rfl := List.map_eq_nil_iff.1 hnil
    refine .nil (aq_then ?_)
    refine aw_cond rfl (fun _ => ?_) (fun hx => absurd hx (by simp))
    refine aw_rs ?_
    refine .as rfl (by rfl) ?_
    refine .nil (aq_then ?_)
    refine aw_ret ?_
    refine aq_then_ret ?_
    refine aq_adopt 2 0 1 rfl rfl ?_
    refine aq_weak (s' := ⟨[(2, .slc 0 0 ([] : List Int).length 1)], [(0, .av (.d (.arr 1 ([] : List Int).length (([] : List Int).map eI_u8))))], []⟩) id hb0 (.keep rfl .nil) (.keep rfl .nil) rfl (by rfl) ?_
    exact aq_fin1 (.tmp rfl (by rfl) .nil) rfl ⟨rfl, rfl⟩
  · refine .nil (aq_then ?_)
    refine aw_cond rfl (fun hx => absurd hx (by simp)) (fun _ => ?_)
    refine aw_skip ?_
    refine aq_then ?_
    refine aw_rs ?_
    refine .n (f_buildS0 1 (by rfl) el139) rfl .nil rfl ?_
    refine .mv rfl (by rfl) ?_
    refine .w (f_appendC (m := a0.length) (ys := (a0 : List Int).map eI_u8) (xs := ([] : List D)) (zs := (a0).map eI_u8) 0 (by rfl) el139 (by simp) (by simp) (by simp) (by simp) (Nat.le_trans (Nat.mul_le_mul_right _ hb) (by decide)) (Nat.le_trans hb (by decide)) srcD) rfl (.c rfl (.c rfl .nil)) (.cons rfl .nil) (.cons rfl .nil) ?_
    refine .as rfl (by rfl) ?_
    refine .nil (aq_then ?_)
    refine aw_ret ?_
    refine aq_weak (s' := ⟨[(2, .slc 0 0 (a0).length 1)], [(0, .av (.d (.arr 1 (a0).length ((a0).map eI_u8))))], []⟩) id hb0 (.keep rfl .nil) (.keep rfl .nil) rfl (by rfl) ?_
    exact aq_fin1 (.tmp rfl (by rfl) .nil) rfl ⟨rfl, rfl⟩
def apartF (a0 a1 : List Int) : Nat → Int → Option (Option (Int × Int))
  | 0, _ => none
  | n + 1, i => (if (decide (i < (32 : Int))) = true then ((rd a0 i).bind fun (x : Int) => ((rd a1 i).bind fun (y : Int) =>
      (if ((bXor .u8 x y) != (0 : Int)) = true then some (some (i, bXor .u8 x y)) else apartF a0 a1 n (IntKind.i64.wrap (i + (1 : Int)))))) else some none)


theorem Fap_ok {a0 a1 : List Int} : ACall Tryd.prog [] 123 [.d (eA22 a0), .d (eA22 a1)] [] (fun r' hp' => r' = .fn (.func 150) [] [.ptr 2 0 [], .ptr 3 0 []] ∧ hp' = [(3, .av (.d (eA22 a1))), (2, .av (.d (eA22 a0)))]) := by
  refine acall_of_body mixed Tryd.func123 rfl (by rfl) ?_
  intro C hro hgl hb0
  refine aw_rs ?_
  refine .n (f_box 2 (by rfl) (by rfl)) rfl (.c rfl .nil) rfl ?_
  refine .n (f_box 3 (by rfl) (by rfl)) rfl (.c rfl .nil) rfl ?_
  refine .v (f_assign (by rfl)) rfl (.c rfl .nil) .nil ?_
  refine .nil (aq_then ?_)
  refine aw_rs ?_
  refine .v (f_makeFunc (xs := []) (ys := [.ptr 2 0 [], .ptr 3 0 []]) (by rfl) rfl rfl (by rfl) (by rfl)) rfl (.c rfl (.c rfl .nil)) .nil ?_
  refine .v (f_assign (by rfl)) rfl (.c rfl .nil) .nil ?_
  refine .nil (aq_then ?_)
  refine aw_ret ?_
  exact aq_fin1 (.tmp rfl (by rfl) .nil) rfl ⟨rfl, rfl⟩

/-- The walk of what yields: at the first byte that differs the reader's body runs, and it leaves. -/
theorem apart_walk {n : Nat} {a0 a1 : List Int} {res : Option (Int × Int)} (h : apartF a0 a1 n 0 = some res) : ∃ c1, Tryd.f150.body = some c1 ∧
    ∀ (C1 : Ctx Tryd.prog Tryd.f150.ntmps) (r : Loop) (E : Exit → Act → World → Prop) (hp : Heap) (A B L ns2 : Nat) (envo : Env), r.state = .ready → hp.get A = some (.av (.d (eA22 a0))) → hp.get B = some (.av (.d (eA22 a1))) → hp.get L = some (.raw (.loop r)) →
      r.params.toList.length = 2 → (r.params.toList.all (Nat.blt · ns2)) = true → Pin C1 ns2 envo r.tmps →
      (res = none → ∀ env, AQ C1 E .normal ⟨env, hp, []⟩) →
      (∀ i x, res = some (i, x) → ∀ (C2 : Ctx Tryd.prog ns2) (Y A' : Exit → Act → World → Prop), (∃ l, C2.round = some l) → C2.globs = C1.globs → (∀ o, hp.get o = none → C2.base o = none) →
        (∀ s2, s2.dfs = [] → s2.hp.get L = some (.raw (.loop { r with state := .busy })) →
          (∀ env, AQ C1 E .normal ⟨env, (L, .raw (.loop { r with state := .done, pending := some .ret })) :: s2.hp, []⟩) → AQ C2 Y .ret s2) →
        (∀ s2, s2.hp.get L = some (.raw (.loop r)) → AW C2 r.body Y ⟨s2.env, (L, .raw (.loop { r with state := .busy })) :: s2.hp, s2.dfs⟩ → AQ C2 A' .normal s2) →
        AW C2 r.assign A' ⟨paramEnv r.params.toList [.d (.val (.int .i64 i)), .d (.val (.int .u8 x))] envo, hp, []⟩) →
      AW C1 c1 E ⟨argEnv (.yld L :: [.ptr A 0 [], .ptr B 0 []]) 0, hp, []⟩ := by
  refine ⟨_, rfl, ?_⟩
  intro C r E hp A B L ns2 envo hst hA hB hL hps hlt2 hpin hnone hsome
  refine aw_scope ?_
  refine aw_seq ?_
  refine aw_label ?_
  refine aq_then ?_
  refine aw_rs ?_
  refine .v (f_move (by rfl)) rfl (.c rfl .nil) .nil ?_
  refine .nil (aq_then ?_)
  refine aw_block ?_
  refine aw_sube [(0, .yld L), (1, .ptr A 0 []), (2, .ptr B 0 []), (6, .d (.val (.int .i64 0)))] (.keep rfl (.keep rfl (.keep rfl (.keep rfl .nil)))) ?_
  refine aw_loop (σ := Nat × Int) (fun z => ⟨[(0, .yld L), (1, .ptr A 0 []), (2, .ptr B 0 []), (6, .d (.val (.int .i64 z.2)))], hp, []⟩) (fun z => apartF a0 a1 z.1 z.2 = some res) (fun z => z.1) (n, (0 : Int)) h ?_
  clear h
  rintro ⟨n_, i⟩ h
  obtain _ | n_ := n_
  · simp only [apartF] at h; cases h
  · simp only [apartF] at h
    show AW C _ _ ⟨[(0, .yld L), (1, .ptr A 0 []), (2, .ptr B 0 []), (6, .d (.val (.int .i64 i)))], hp, []⟩
    refine aw_rs ?_
    refine .v (f_binI (by rfl) rfl (by rfl)) rfl (.c rfl (.c rfl .nil)) .nil ?_
    refine .nil (aq_then ?_)
    refine aw_seq ?_
    refine aw_cond rfl (fun hc1 => ?_) (fun hc1 => ?_)
    · replace h := ite_t hc1 h
      refine aw_skip ?_
      refine aq_then ?_
      refine aw_seq ?_
      refine aw_block ?_
      refine aw_rs ?_
      refine .v (f_move (by rfl)) rfl (.c rfl .nil) .nil ?_
      refine .v (f_assign (by rfl)) rfl (.c rfl .nil) .nil ?_
      refine .nil (aq_then ?_)
      refine aw_rds ?_
      obtain ⟨x, hx, h⟩ := bind_some h
      obtain ⟨y, hy, h⟩ := bind_some h
      obtain ⟨hi, hx⟩ := rd_some hx
      obtain ⟨_, hy⟩ := rd_some hy
      refine .v (f_move (by rfl)) rfl (.c rfl .nil) .nil ?_
      refine .v (f_indexO (by rfl) ar23 (o := A) (off := 0) (p := []) (c := .d (eA22 a0)) rfl hi (rd_map _ hx)) rfl (.c rfl (.c rfl .nil)) (.cons hA .nil) ?_
      refine .v (f_load (n := 0) (o := A) (off := (0 + i.toNat * 1)) (p := [i.toNat]) (c := .d (eA22 a0)) (z := .d (.val (.int .u8 x))) (by rfl) (at_map _ hx (by simp)) ty5 (by rfl)) rfl (.c rfl .nil) (.cons hA .nil) ?_
      refine .v (f_move (by rfl)) rfl (.c rfl .nil) .nil ?_
      refine .v (f_indexO (by rfl) ar23 (o := B) (off := 0) (p := []) (c := .d (eA22 a1)) rfl hi (rd_map _ hy)) rfl (.c rfl (.c rfl .nil)) (.cons hB .nil) ?_
      refine .v (f_load (n := 0) (o := B) (off := (0 + i.toNat * 1)) (p := [i.toNat]) (c := .d (eA22 a1)) (z := .d (.val (.int .u8 y))) (by rfl) (at_map _ hy (by simp)) ty5 (by rfl)) rfl (.c rfl .nil) (.cons hB .nil) ?_
      refine .v (f_binI (r := .int .u8 (bXor .u8 x y)) (by rfl) rfl (by rfl)) rfl (.c rfl (.c rfl .nil)) .nil ?_
      refine .v (f_assign (by rfl)) rfl (.c rfl .nil) .nil ?_
      refine .nil (by kernel_rfl) ?_
      refine aw_rs ?_
      refine .v (f_move (by rfl)) rfl (.c rfl .nil) .nil ?_
      refine .v (f_binI (by rfl) rfl (by rfl)) rfl (.c rfl (.c rfl .nil)) .nil ?_
      refine .v (f_move (by rfl)) rfl (.c rfl .nil) .nil ?_
      rcases Bool.eq_false_or_eq_true ((bXor .u8 x y) != (0 : Int)) with hc2 | hc2
      · replace h := ite_t hc2 h
        obtain rfl := Option.some.inj h
        refine .gv (f_move (by rfl)) rfl rfl rfl hc2 (.c rfl .nil) .nil ?_
        refine .gv (f_move (by rfl)) rfl rfl rfl hc2 (.c rfl .nil) .nil ?_
        refine .gv (f_move (by rfl)) rfl rfl rfl hc2 (.c rfl .nil) .nil ?_
        refine R.yield (L := L) (r := r) (ns2 := ns2) (envo := envo) (xs := [.d (.val (.int .i64 i)), .d (.val (.int .u8 (bXor .u8 x y)))]) (wanted_on rfl rfl rfl hc2) (by rfl) rfl hL hst (by rw [hps]; rfl) rfl (by rfl) (.c rfl (.c rfl .nil)) hpin hlt2 ?_
        intro C2 Y A' h1 h2 h3 h4 h5 h6
        refine hsome _ _ rfl C2 Y A' h1 h2 h3 (fun s2 k1 k2 k3 => h5 _ _ s2 rfl k1 k2 ?_) h6
        refine .gv (f_not (by rfl)) rfl rfl rfl hc2 (.c rfl .nil) .nil ?_
        refine .v (f_pick_true (by rfl) hc2) rfl (.c rfl (.c rfl .nil)) .nil ?_
        refine .nil (aq_then ?_)
        refine aw_cond rfl (fun _ => ?_) (fun hx => absurd hx (by simp))
        refine aw_exit ?_
        refine aq_block_exit_ne rfl ?_
        refine aq_then_exit ?_
        refine aq_then_exit ?_
        refine aq_block_exit ?_
        refine aq_scope (by intro l; simp) ?_
        exact k3 _
      · replace h := ite_f hc2 h
        refine .off rfl rfl rfl hc2 rfl (by rfl) ?_
        refine .off rfl rfl rfl hc2 rfl (by rfl) ?_
        refine .off rfl rfl rfl hc2 rfl (by rfl) ?_
        refine .off rfl rfl rfl hc2 rfl (by rfl) ?_
        refine .off rfl rfl rfl hc2 rfl (by rfl) ?_
        refine .v (f_pick_false (by rfl) hc2) rfl (.c rfl (.c rfl .nil)) .nil ?_
        refine .nil (aq_then ?_)
        refine aw_cond rfl (fun hx => absurd hx (by simp)) (fun _ => ?_)
        refine aw_skip ?_
        refine aq_block ?_
        refine aq_then ?_
        refine aw_r ?_
        refine .v (f_binI (by rfl) rfl (by rfl)) rfl (.c rfl (.c rfl .nil)) .nil ?_
        refine .v (f_move (by rfl)) rfl (.c rfl .nil) .nil ?_
        refine .nil ?_
        refine aq_sube [(0, .yld L), (1, .ptr A 0 []), (2, .ptr B 0 []), (6, .d (.val (.int .i64 (IntKind.i64.wrap (i + 1)))))] (.keep rfl (.keep rfl (.keep rfl (.keep rfl .nil)))) ?_
        exact aq_loop (n_, IntKind.i64.wrap (i + 1)) h (Nat.lt_succ_self _)
    · replace h := ite_f hc1 h
      obtain rfl := Option.some.inj h
      refine aw_exit ?_
      refine aq_then_exit ?_
      refine aq_then_exit ?_
      refine aq_block_exit ?_
      refine aq_scope (by intro l; simp) ?_
      exact hnone rfl _


def F96_path_Ahead (n : Nat) (a0 a1 : List Int) : Option Bool :=
  (apartF a0 a1 n 0).bind fun (q : Option (Int × Int)) => match q with
    | none => some false
    | some (i, x) => (rd a0 i).bind fun (y : Int) => (rd a1 i).bind fun (z : Int) => some (decide (y < z))
theorem F96_path_Ahead_ok {n : Nat} {a0 a1 : List Int} {r : Bool} (h : F96_path_Ahead n a0 a1 = some r) :
    ACall Tryd.prog GS 96 [.d (eA22 a0), .d (eA22 a1)] [] (fun r' hp' => r' = .d (.val (.bool r)) ∧ hp' = []) := by
  refine acall_of_body mixed Tryd.func96 rfl (by rfl) ?_
  intro C hro hgl hb0
  unfold F96_path_Ahead at h
  obtain ⟨q, hq, h⟩ := bind_some h
  refine aw_rs ?_
  refine .n (f_box 2 (by rfl) (by rfl)) rfl (.c rfl .nil) rfl ?_
  refine .n (f_box 3 (by rfl) (by rfl)) rfl (.c rfl .nil) rfl ?_
  refine .n (f_alloc 4 (by rfl) zr4) rfl .nil rfl ?_
  refine .nil (aq_then ?_)
  refine aw_seq ?_
  refine aw_rs ?_
  refine .v (f_load (n := 0) (o := 2) (off := 0) (p := []) (c := .d (eA22 a0)) (z := .d (eA22 a0)) (by rfl) rfl ty23 (by rfl)) rfl (.c rfl .nil) (.cons rfl .nil) ?_
  refine .v (f_load (n := 0) (o := 3) (off := 0) (p := []) (c := .d (eA22 a1)) (z := .d (eA22 a1)) (by rfl) rfl ty23 (by rfl)) rfl (.c rfl .nil) (.cons rfl .nil) ?_
  refine .w (f_call (hn := [103, 102]) (hw := [(103, .av (.d (eA22 a1))), (102, .av (.d (eA22 a0)))]) (r := .fn (.func 150) [] [.ptr 102 0 [], .ptr 103 0 []]) (by rfl) en123 rfl (by rfl) (acallF_closed 100 (by rfl) (acall_globs Fap_ok))) rfl (.c rfl (.c rfl .nil)) .nil (.cons rfl (.cons rfl .nil)) ?_
  refine .nil (aq_then ?_)
  refine aw_block ?_
  obtain ⟨c1, hc1, hwk⟩ := apart_walk hq
  refine aw_range 200 201 hro rfl Tryd.func150 hc1 rfl en150 rfl rfl rfl (by rfl) ?_
  intro C1 lp E hro1 hgl1 hb1 hst hpd hps has hbd hpin hend
  refine hwk C1 lp E _ 102 103 201 _ _ hst rfl rfl rfl (by rw [hps]; rfl) (by rw [hps]; rfl) hpin ?_ ?_
  · intro hn env
    subst hn
    obtain rfl := Option.some.inj h
    refine hend .normal _ lp.state lp.pending (.inr rfl) rfl rfl (by rw [hst]; simp) ?_
    rw [hpd]
    refine aq_block ?_
    refine aq_then ?_
    refine aw_rs ?_
    refine .s (f_store (n := 0) (o := 4) (off := 0) (p := []) (c := .d (.val (.bool false))) (old := .d (.val (.bool false))) (z := .d (.val (.bool false))) (c' := .d (.val (.bool false))) rfl rfl (by rfl) ty4 (by rfl)) rfl (.c rfl (.c rfl .nil)) (.cons rfl .nil) ?_
    refine .nil (aq_then ?_)
    refine aw_ret ?_
    refine aq_marks (.inl rfl) ⟨rfl, trivial⟩ ?_
    exact aq_finp hb0 rfl (.cell rfl rfl ty4 (by rfl) .nil) (by rfl) rfl ⟨rfl, rfl⟩
  · intro i x hix C2 Y A' h1 h2 h3 hret hbegin
    subst hix
    refine aw_code has ?_
    rw [hps]
    refine aw_r ?_
    refine .v (f_assign (by rfl)) rfl (.c rfl .nil) .nil ?_
    refine .nil (hbegin _ rfl ?_)
    refine aw_code hbd ?_
    refine aw_block ?_
    refine aw_seq ?_
    obtain ⟨y, hy, h⟩ := bind_some h
    obtain ⟨z, hz, h⟩ := bind_some h
    obtain ⟨hi, hy⟩ := rd_some hy
    obtain ⟨_, hz⟩ := rd_some hz
    obtain rfl := Option.some.inj h
    refine aw_rd ?_
    refine .v (f_move (by rfl)) rfl (.c rfl .nil) .nil ?_
    refine .v (f_indexO (by rfl) ar23 (o := 2) (off := 0) (p := []) (c := .d (eA22 a0)) rfl hi (rd_map _ hy)) rfl (.c rfl (.c rfl .nil)) (.cons rfl .nil) ?_
    refine .v (f_load (n := 0) (o := 2) (off := (0 + i.toNat * 1)) (p := [i.toNat]) (c := .d (eA22 a0)) (z := .d (.val (.int .u8 y))) (by rfl) (at_map _ hy (by simp)) ty5 (by rfl)) rfl (.c rfl .nil) (.cons rfl .nil) ?_
    refine .v (f_move (by rfl)) rfl (.c rfl .nil) .nil ?_
    refine .v (f_indexO (by rfl) ar23 (o := 3) (off := 0) (p := []) (c := .d (eA22 a1)) rfl hi (rd_map _ hz)) rfl (.c rfl (.c rfl .nil)) (.cons rfl .nil) ?_
    refine .v (f_load (n := 0) (o := 3) (off := (0 + i.toNat * 1)) (p := [i.toNat]) (c := .d (eA22 a1)) (z := .d (.val (.int .u8 z))) (by rfl) (at_map _ hz (by simp)) ty5 (by rfl)) rfl (.c rfl .nil) (.cons rfl .nil) ?_
    refine .v (f_binI (r := .bool (decide (y < z))) (by rfl) rfl (by rfl)) rfl (.c rfl (.c rfl .nil)) .nil ?_
    refine .s (f_store (n := 0) (o := 4) (off := 0) (p := []) (c := .d (.val (.bool false))) (old := .d (.val (.bool false))) (z := .d (.val (.bool (decide (y < z))))) (c' := .d (.val (.bool (decide (y < z))))) rfl rfl (by rfl) ty4 (by rfl)) rfl (.c rfl (.c rfl .nil)) (.cons rfl .nil) ?_
    refine .nil (by kernel_rfl) ?_
    refine aq_then ?_
    refine aw_ret ?_
    refine aq_block_ret ?_
    refine hret _ rfl rfl ?_
    intro env
    refine hend .normal _ .done (some .ret) (.inr rfl) rfl rfl (by simp) ?_
    show AW C .ret _ _
    refine aw_ret ?_
    refine aq_block_ret ?_
    refine aq_then_ret ?_
    refine aq_marks (.inl rfl) ⟨rfl, trivial⟩ ?_
    exact aq_finp hb0 rfl (.cell rfl rfl ty4 (by rfl) .nil) (by rfl) rfl ⟨rfl, rfl⟩

def F165_path_Shared (n : Nat) (a0 a1 : List Int) : Option Int :=
  (apartF a0 a1 n 0).bind fun (q : Option (Int × Int)) => match q with
    | none => some 256
    | some (i, x) => (F175_bits_LeadingZeros8 n x).bind fun (y : Int) => some (IntKind.i64.wrap (IntKind.i64.wrap ((8 : Int) * i) + y))
theorem F165_path_Shared_ok {n : Nat} {a0 a1 : List Int} {r : Int} (h : F165_path_Shared n a0 a1 = some r) :
    ACall Tryd.prog GS 165 [.d (eA22 a0), .d (eA22 a1)] [] (fun r' hp' => r' = .d (.val (.int .i64 r)) ∧ hp' = []) := by
  refine acall_of_body mixed Tryd.func165 rfl (by rfl) ?_
  intro C hro hgl hb0
  unfold F165_path_Shared at h
  obtain ⟨q, hq, h⟩ := bind_some h
  refine aw_rs ?_
  refine .n (f_box 2 (by rfl) (by rfl)) rfl (.c rfl .nil) rfl ?_
  refine .n (f_box 3 (by rfl) (by rfl)) rfl (.c rfl .nil) rfl ?_
  refine .n (f_alloc 4 (by rfl) zr3) rfl .nil rfl ?_
  refine .nil (aq_then ?_)
  refine aw_seq ?_
  refine aw_rs ?_
  refine .v (f_load (n := 0) (o := 2) (off := 0) (p := []) (c := .d (eA22 a0)) (z := .d (eA22 a0)) (by rfl) rfl ty23 (by rfl)) rfl (.c rfl .nil) (.cons rfl .nil) ?_
  refine .v (f_load (n := 0) (o := 3) (off := 0) (p := []) (c := .d (eA22 a1)) (z := .d (eA22 a1)) (by rfl) rfl ty23 (by rfl)) rfl (.c rfl .nil) (.cons rfl .nil) ?_
  refine .w (f_call (hn := [103, 102]) (hw := [(103, .av (.d (eA22 a1))), (102, .av (.d (eA22 a0)))]) (r := .fn (.func 150) [] [.ptr 102 0 [], .ptr 103 0 []]) (by rfl) en123 rfl (by rfl) (acallF_closed 100 (by rfl) (acall_globs Fap_ok))) rfl (.c rfl (.c rfl .nil)) .nil (.cons rfl (.cons rfl .nil)) ?_
  refine .nil (aq_then ?_)
  refine aw_block ?_
  obtain ⟨c1, hc1, hwk⟩ := apart_walk hq
  refine aw_range 200 201 hro rfl Tryd.func150 hc1 rfl en150 rfl rfl rfl (by rfl) ?_
  intro C1 lp E hro1 hgl1 hb1 hst hpd hps has hbd hpin hend
  refine hwk C1 lp E _ 102 103 201 _ _ hst rfl rfl rfl (by rw [hps]; rfl) (by rw [hps]; rfl) hpin ?_ ?_
  · intro hn env
    subst hn
    obtain rfl := Option.some.inj h
    refine hend .normal _ lp.state lp.pending (.inr rfl) rfl rfl (by rw [hst]; simp) ?_
    rw [hpd]
    refine aq_block ?_
    refine aq_then ?_
    refine aw_rs ?_
    refine .s (f_store (n := 0) (o := 4) (off := 0) (p := []) (c := .d (.val (.int .i64 0))) (old := .d (.val (.int .i64 0))) (z := .d (.val (.int .i64 256))) (c' := .d (.val (.int .i64 256))) rfl rfl (by rfl) ty3 (by rfl)) rfl (.c rfl (.c rfl .nil)) (.cons rfl .nil) ?_
    refine .nil (aq_then ?_)
    refine aw_ret ?_
    refine aq_marks (.inl rfl) ⟨rfl, trivial⟩ ?_
    exact aq_finp hb0 rfl (.cell rfl rfl ty3 (by rfl) .nil) (by rfl) rfl ⟨rfl, rfl⟩
  · intro i x hix C2 Y A' h1 h2 h3 hret hbegin
    subst hix
    refine aw_code has ?_
    rw [hps]
    refine aw_rs ?_
    refine .v (f_assign (by rfl)) rfl (.c rfl .nil) .nil ?_
    refine .nil (aq_then ?_)
    refine aw_r ?_
    refine .v (f_assign (by rfl)) rfl (.c rfl .nil) .nil ?_
    refine .nil (hbegin _ rfl ?_)
    refine aw_code hbd ?_
    refine aw_block ?_
    refine aw_rs ?_
    obtain ⟨y, hy, h⟩ := bind_some h
    obtain rfl := Option.some.inj h
    refine .v (f_move (by rfl)) rfl (.c rfl .nil) .nil ?_
    refine .v (f_binI (by rfl) rfl (by rfl)) rfl (.c rfl (.c rfl .nil)) .nil ?_
    refine .v (f_move (by rfl)) rfl (.c rfl .nil) .nil ?_
    refine .v (f_callP (h2.trans (hgl1.trans hgl)) (by rfl) en175 rfl (by rfl) (by rfl) (by rfl) (F175_bits_LeadingZeros8_ok hy)) rfl (.c rfl .nil) .nil ?_
    refine .v (f_binI (by rfl) rfl (by rfl)) rfl (.c rfl (.c rfl .nil)) .nil ?_
    refine .s (f_store (n := 0) (o := 4) (off := 0) (p := []) (c := .d (.val (.int .i64 0))) (old := .d (.val (.int .i64 0))) (z := .d (.val (.int .i64 (IntKind.i64.wrap (IntKind.i64.wrap ((8 : Int) * i) + y))))) (c' := .d (.val (.int .i64 (IntKind.i64.wrap (IntKind.i64.wrap ((8 : Int) * i) + y))))) rfl rfl (by rfl) ty3 (by rfl)) rfl (.c rfl (.c rfl .nil)) (.cons rfl .nil) ?_
    refine .nil (aq_then ?_)
    refine aw_ret ?_
    refine aq_block_ret ?_
    refine hret _ rfl rfl ?_
    intro env
    refine hend .normal _ .done (some .ret) (.inr rfl) rfl rfl (by simp) ?_
    show AW C .ret _ _
    refine aw_ret ?_
    refine aq_block_ret ?_
    refine aq_then_ret ?_
    refine aq_marks (.inl rfl) ⟨rfl, trivial⟩ ?_
    exact aq_finp hb0 rfl (.cell rfl rfl ty3 (by rfl) .nil) (by rfl) rfl ⟨rfl, rfl⟩
end Go.Proofs.YtonfljoibcnlgaaDoor
