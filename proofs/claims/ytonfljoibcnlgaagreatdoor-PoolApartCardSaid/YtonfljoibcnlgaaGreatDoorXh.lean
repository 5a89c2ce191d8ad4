import Derived.Test.YtonfljoibcnlgaaGreatDoorXa2
namespace Go.Proofs.YtonfljoibcnlgaaGreatDoor
open Bd
set_option maxRecDepth 10000
@[reducible] def eL91 (x : (List GPair)) : D := .sl 33 (x.map eGPair)
theorem el22 : elB Tryz.prog 22 = some (33, 56) := by kernel_rfl
theorem en107 : enterB Tryz.prog 107 = true := by kernel_rfl
theorem en140 : enterB Tryz.prog 140 = true := by kernel_rfl
theorem zr4 : ∃ zv, zeroB Tryz.prog 4 = some zv ∧ ∀ F μ w, RA F μ w (.d (eB false)) zv.cells.toList := zero_mk' (by kernel_rfl) (by kernel_rfl)
theorem zr3 : ∃ zv, zeroB Tryz.prog 3 = some zv ∧ ∀ F μ w, RA F μ w (.d (eI_i64 (0 : Int))) zv.cells.toList := zero_mk' (by kernel_rfl) (by kernel_rfl)
theorem en172 : enterB Tryz.prog 172 = true := by kernel_rfl
theorem ty27 : tyB Tryz.prog 27 = some (true, 2) := by kernel_rfl
theorem ty91 : tyB Tryz.prog 91 = some (false, 1) := by kernel_rfl
theorem ty170 : tyB Tryz.prog 170 = some (true, 33) := by kernel_rfl
theorem zrv170 : ∃ zv, zeroB Tryz.prog 170 = some zv ∧ ∀ F μ w, RA F μ w (.st [.d (eA46 (List.replicate 32 (0 : Int))), .N]) zv.cells.toList := zero_st (ds := [(eA46 (List.replicate 32 (0 : Int))), (.val (.slice none 0 0))]) (zero_mk' (by kernel_rfl) (by kernel_rfl))
theorem ag170 : aggB Tryz.prog 170 = true := by kernel_rfl
theorem pl170_0 : placeB Tryz.prog 170 0 = some (0, 32) := by kernel_rfl
theorem pl170_1 : placeB Tryz.prog 170 1 = some (32, 1) := by kernel_rfl
theorem en112 : enterB Tryz.prog 112 = true := by kernel_rfl
theorem en142 : enterB Tryz.prog 142 = true := by kernel_rfl
theorem en161 : enterB Tryz.prog 161 = true := by kernel_rfl
theorem el91 : elB Tryz.prog 91 = some (33, 56) := by kernel_rfl
theorem zel91 : zelB Tryz.prog 91 = some (D.cells (.st [(eA46 (List.replicate 32 (0 : Int))), (.val (.slice none 0 0))])) := by kernel_rfl
theorem pl91_0 : placeB Tryz.prog 91 0 = some (0, 33) := by kernel_rfl
def F68_Clone (n : Nat) (a0 : List GLine) : Option (List GLine) := if a0.length ≤ 1073741824 then some a0 else none
theorem F68_Clone_ok {n : Nat} {a0 r : List GLine} (h : F68_Clone n a0 = some r) :
    ACall Tryz.prog GS 68 [.d (eL22 a0)] [] (fun r' hp' => r' = .slc 0 0 (r).length 33 ∧ hp' = [(0, .av (.d (.arr 33 (r).length ((r).map eGLine))))]) := by
  refine acall_of_body mixed Tryz.func68 rfl (by rfl) ?_
  intro C hro hgl hb0
  unfold F68_Clone at h
  obtain ⟨hb, h⟩ := ifp h
  obtain rfl := Option.some.inj h
  refine aw_rs ?_
  refine .as rfl (by rfl) ?_
  refine .nil (aq_then ?_)
  refine aw_seq ?_
  refine aw_rs ?_
  refine .mv rfl (by rfl) ?_
  refine .eqNil (by rfl) sl22 rfl rfl rfl (fun hnil => ?_) ?_
  · obtain rfl := List.map_eq_nil_iff.1 hnil
    refine .nil (aq_then ?_)
    refine aw_cond rfl (fun _ => ?_) (fun hx => absurd hx (by simp))
    refine aw_rs ?_
    refine .as rfl (by rfl) ?_
    refine .nil (aq_then ?_)
    refine aw_ret ?_
    refine aq_then_ret ?_
    refine aq_adopt 2 0 33 rfl rfl ?_
    refine aq_k hb0 (.k 2 rfl .nil) (.k 0 rfl .nil) ?_
    exact aq_fin1 (.tmp rfl (by rfl) .nil) rfl ⟨rfl, rfl⟩
  · refine .nil (aq_then ?_)
    refine aw_cond rfl (fun hx => absurd hx (by simp)) (fun _ => ?_)
    refine aw_skip ?_
    refine aq_then ?_
    refine aw_rs ?_
    refine .n (f_buildS0 1 (by rfl) el22) rfl .nil rfl ?_
    refine .mv rfl (by rfl) ?_
    refine .w (f_appendC (m := a0.length) (ys := (a0 : List GLine).map eGLine) (xs := ([] : List D)) (zs := (a0).map eGLine) 0 (by rfl) el22 (by simp) (by simp) (by simp) (by simp) (Nat.le_trans (Nat.mul_le_mul_right _ hb) (by decide)) (Nat.le_trans hb (by decide)) srcD) rfl (.c rfl (.c rfl .nil)) (.cons rfl .nil) (.cons rfl .nil) ?_
    refine .as rfl (by rfl) ?_
    refine .nil (aq_then ?_)
    refine aw_ret ?_
    refine aq_k hb0 (.k 2 rfl .nil) (.k 0 rfl .nil) ?_
    exact aq_fin1 (.tmp rfl (by rfl) .nil) rfl ⟨rfl, rfl⟩
def F74_Clone (n : Nat) (a0 : List GTx) : Option (List GTx) := if a0.length ≤ 1073741824 then some a0 else none
theorem F74_Clone_ok {n : Nat} {a0 r : List GTx} (h : F74_Clone n a0 = some r) :
    ACall Tryz.prog GS 74 [.d (eL28 a0)] [] (fun r' hp' => r' = .slc 0 0 (r).length 99 ∧ hp' = [(0, .av (.d (.arr 99 (r).length ((r).map eGTx))))]) := by
  refine acall_of_body mixed Tryz.func74 rfl (by rfl) ?_
  intro C hro hgl hb0
  unfold F74_Clone at h
  obtain ⟨hb, h⟩ := ifp h
  obtain rfl := Option.some.inj h
  refine aw_rs ?_
  refine .as rfl (by rfl) ?_
  refine .nil (aq_then ?_)
  refine aw_seq ?_
  refine aw_rs ?_
  refine .mv rfl (by rfl) ?_
  refine .eqNil (by rfl) sl28 rfl rfl rfl (fun hnil => ?_) ?_
  · obtain rfl := List.map_eq_nil_iff.1 hnil
    refine .nil (aq_then ?_)
    refine aw_cond rfl (fun _ => ?_) (fun hx => absurd hx (by simp))
    refine aw_rs ?_
    refine .as rfl (by rfl) ?_
    refine .nil (aq_then ?_)
    refine aw_ret ?_
    refine aq_then_ret ?_
    refine aq_adopt 2 0 99 rfl rfl ?_
    refine aq_k hb0 (.k 2 rfl .nil) (.k 0 rfl .nil) ?_
    exact aq_fin1 (.tmp rfl (by rfl) .nil) rfl ⟨rfl, rfl⟩
  · refine .nil (aq_then ?_)
    refine aw_cond rfl (fun hx => absurd hx (by simp)) (fun _ => ?_)
    refine aw_skip ?_
    refine aq_then ?_
    refine aw_rs ?_
    refine .n (f_buildS0 1 (by rfl) el28) rfl .nil rfl ?_
    refine .mv rfl (by rfl) ?_
    refine .w (f_appendC (m := a0.length) (ys := (a0 : List GTx).map eGTx) (xs := ([] : List D)) (zs := (a0).map eGTx) 0 (by rfl) el28 (by simp) (by simp) (by simp) (by simp) (Nat.le_trans (Nat.mul_le_mul_right _ hb) (by decide)) (Nat.le_trans hb (by decide)) srcD) rfl (.c rfl (.c rfl .nil)) (.cons rfl .nil) (.cons rfl .nil) ?_
    refine .as rfl (by rfl) ?_
    refine .nil (aq_then ?_)
    refine aw_ret ?_
    refine aq_k hb0 (.k 2 rfl .nil) (.k 0 rfl .nil) ?_
    exact aq_fin1 (.tmp rfl (by rfl) .nil) rfl ⟨rfl, rfl⟩
theorem zlx77 : ((zelB Tryz.prog 22).map fun cs => cs.all leafV) = some true := by kernel_rfl
def F77_Delete (n : Nat) (a0 a1 : Int) (a2 : List GLine) : Option (List GLine) := if 0 ≤ a0 ∧ a0 < a1 ∧ a1 ≤ a2.length ∧ a2.length ≤ 1073741824 then some (a2.take a0.toNat ++ a2.drop a1.toNat) else none
theorem F77_Delete_ok {n : Nat} {a0 a1 : Int} {a2 r : List GLine} (h : F77_Delete n a0 a1 a2 = some r) :
    ACall Tryz.prog GS 77 [.slc 0 0 (a2).length 33, .I a0, .I a1] [(0, .av (.d (.arr 33 (a2).length ((a2).map eGLine))))]
      (fun r' hp' => r' = .slc 1 0 (r).length 33 ∧ hp' = [(1, .av (.d (.arr 33 (r).length ((r).map eGLine)))), (0, .dead)]) := by
  refine acall_of_body1 mixed Tryz.func77 rfl (by rfl) ?_
  intro C hro hgl hb0 hb1
  unfold F77_Delete at h
  obtain ⟨⟨h0, h1, h2, hb⟩, h⟩ := ifp h
  obtain rfl := Option.some.inj h
  obtain ⟨i, rfl⟩ := Int.eq_ofNat_of_zero_le h0
  obtain ⟨j, rfl⟩ := Int.eq_ofNat_of_zero_le (show 0 ≤ a1 by omega)
  have hij : i < j := by omega
  have hj : j ≤ a2.length := by omega
  simp only [Int.toNat_natCast] at *
  have el2 : (a2.map eGLine).length = a2.length := List.length_map _
  have hmap : (a2.take i ++ a2.drop j).map eGLine = (a2.map eGLine).take i ++ (a2.map eGLine).drop j := by simp only [List.map_append, List.map_take, List.map_drop]
  obtain ⟨m, hm⟩ : ∃ m, i + (a2.length - j) = m := ⟨_, rfl⟩
  have hlen : (a2.take i ++ a2.drop j).length = m := by simp only [List.length_append, List.length_take, List.length_drop]; omega
  refine aw_exact 0 (o := 0) (n := a2.length) (sz := 33) rfl (hb1 0 _ rfl) (by omega) (fun b base tot cap hB hc ht => ?_)
  have hcs : a2.length * 33 ≤ cap * 33 := Nat.mul_le_mul_right _ hc
  refine aw_rs ?_
  refine .as rfl (by rfl) ?_
  refine .nil (aq_then ?_)
  refine aw_rs ?_
  refine .mv rfl (by rfl) ?_
  refine .mv rfl (by rfl) ?_
  refine .mv rfl (by rfl) ?_
  refine .mv rfl (by rfl) ?_
  refine .v1 (f_lenX (by rfl) sl22 rfl) rfl rfl ?_
  refine .v (f_slice3X (i := i) (j := j) (m := a2.length) (by rfl) sl22 (by omega) (by omega) (by omega) (by omega)) rfl (.c rfl (.c rfl (.c rfl (.c rfl .nil)))) .nil ?_
  refine .nil (aq_then ?_)
  refine aw_seq ?_
  refine aw_rs ?_
  refine .mv rfl (by rfl) ?_
  refine .mv rfl (by rfl) ?_
  refine .bi (r := .bool false) rfl rfl (by have : ¬ ((i : Int) = (j : Int)) := by omega
                                            simp [binI, this]) rfl (by rfl) ?_
  refine .nil (aq_then ?_)
  refine aw_cond rfl (fun hx => absurd hx (by simp)) (fun _ => ?_)
  refine aw_skip ?_
  refine aq_then ?_
  refine aw_rs ?_
  refine .mv rfl (by rfl) ?_
  refine .v1 (f_lenX (by rfl) sl22 rfl) rfl rfl ?_
  refine .as rfl (by rfl) ?_
  refine .nil (aq_then ?_)
  have hsrc : a2.length - j = 0 ∨ (if cap = j then base else base + j * 33) = base + j * 33 := by
    by_cases e : cap = j
    · left; omega
    · right; rw [if_neg e]
  refine aw_rds ?_
  refine .v1 (f_move (by rfl)) rfl rfl ?_
  refine .v1 (f_move (by rfl)) rfl rfl ?_
  refine .v2 (f_sliceXE (k1 := .i64) (k2 := .i64) (i := 0) (j := (i : Int)) base i cap (by rfl) sl22 (by simp) (by simp) (by omega) (by omega) (by omega) (by omega) (by omega) (by omega) (by omega)) rfl rfl rfl ?_
  refine .v1 (f_move (by rfl)) rfl rfl ?_
  refine .v1 (f_move (by rfl)) rfl rfl ?_
  refine .v2 (f_sliceXF (i := j) (if cap = j then base else base + j * 33) (a2.length - j) (cap - j) (by rfl) sl22 (by omega) (by omega) rfl rfl rfl) rfl rfl rfl ?_
  refine .w (hn := []) (f_appendX (o := 0) (n := a2.length) (q := j) (m := m) (xs := a2.map eGLine) (by rfl) el22 hB el2 hsrc (by omega) (by omega) (by omega) hm rfl) rfl (.c rfl (.c rfl .nil)) (.cons rfl .nil) .nil ?_
  refine .v1 (f_assign (by rfl)) rfl rfl ?_
  refine .nil (by kernel_rfl) ?_
  refine aw_rs ?_
  refine .mv rfl (by rfl) ?_
  refine .mv rfl (by rfl) ?_
  refine .v1 (f_lenX (by rfl) sl22 rfl) rfl rfl ?_
  refine .mv rfl (by rfl) ?_
  refine .v (f_sliceXE (k1 := .i64) (k2 := .i64) (i := (m : Int)) (j := (a2.length : Int)) (base + m * 33) (a2.length - m) (cap - m) (by rfl) sl22 (by simp) (by simp) (by omega) (by omega) (by omega) (by omega) (by omega) (by omega) (by omega)) rfl (.c rfl (.c rfl (.c rfl .nil))) .nil ?_
  refine .s (f_clearX (o := 0) (n := a2.length) (p := m) zlx77 el22 hB (by simp only [List.length_append, List.length_take, List.length_drop, el2]; omega) rfl (by omega) (by rw [show m + (a2.length - m) = a2.length from by omega]; omega) (by omega)) rfl (.c rfl .nil) (.cons rfl .nil) ?_
  refine .nil (aq_then ?_)
  refine aw_rs ?_
  refine .mv rfl (by rfl) ?_
  refine .as rfl (by rfl) ?_
  refine .nil (aq_then ?_)
  refine aw_ret ?_
  refine aq_unexact 6 (o := 0) (sz := 33) rfl hB (by omega) ht ?_
  have zs1 := del1 (E := a2.map eGLine) (i := i) (j := j) (m := m) (by omega) (by omega) (by omega)
  rw [el2] at zs1
  rw [hlen, hmap]
  refine aq_anewE (zs := (a2.map eGLine).take i ++ (a2.map eGLine).drop j) 6 1 rfl rfl rfl (by rw [List.drop_zero]; exact zs1) (by omega) rfl ?_
  refine aq_k hb0 (.k 6 rfl .nil) (.k 1 rfl (.k 0 rfl .nil)) ?_
  exact aq_fin1 (.tmp rfl (by rfl) .nil) rfl ⟨rfl, rfl⟩
theorem zlx78 : ((zelB Tryz.prog 22).map fun cs => cs.all leafV) = some true := by kernel_rfl
theorem exf78 : Extern.find Tryz.f119 = some (Extern.SlicesOverlaps.overlaps #[22, 22] #[4]) := by kernel_rfl
theorem exn78 : Extern.findNext Tryz.f119 = none := by kernel_rfl
def F78_Insert (n : Nat) (a0 : Int) (a1 a2 : List GLine) : Option (List GLine) := if 0 ≤ a0 ∧ a0 ≤ a1.length ∧ a2.length = 1 ∧ a1.length + a2.length ≤ 1073741824 then some (a1.take a0.toNat ++ a2 ++ a1.drop a0.toNat) else none
theorem F78_Insert_ok {n : Nat} {a0 : Int} {a1 a2 r : List GLine} (h : F78_Insert n a0 a1 a2 = some r) :
    ACall Tryz.prog GS 78 [.slc 0 0 (a1).length 33, .I a0, .slc 1 0 (a2).length 33] [(0, .av (.d (.arr 33 (a1).length ((a1).map eGLine)))), (1, .av (.d (.arr 33 (a2).length ((a2).map eGLine))))]
      (fun r' hp' => r' = .slc 2 0 (r).length 33 ∧ hp' = [(2, .av (.d (.arr 33 (r).length ((r).map eGLine)))), (0, .dead), (1, .av (.d (.arr 33 (a2).length ((a2).map eGLine))))]) := by
  refine acall_of_body1 mixed Tryz.func78 rfl (by rfl) ?_
  intro C hro hgl hb0 hb1
  unfold F78_Insert at h
  obtain ⟨⟨h0, h1, hm, hb⟩, h⟩ := ifp h
  obtain rfl := Option.some.inj h
  obtain ⟨i, rfl⟩ := Int.eq_ofNat_of_zero_le h0
  have hi1 : i ≤ a1.length := by omega
  have hsum : (((a1).length : Int) + ((a2).length : Int)) = ((a1.length + a2.length : Nat) : Int) := by omega
  have hlen : ((a1.take i ++ a2 ++ a1.drop i).length) = a1.length + a2.length := by simp only [List.length_append, List.length_take, List.length_drop]; omega
  have hmap : (a1.take i ++ a2 ++ a1.drop i).map eGLine = (a1.map eGLine).take i ++ a2.map eGLine ++ (a1.map eGLine).drop i := by simp only [List.map_append, List.map_take, List.map_drop]
  have el1 : (a1.map eGLine).length = a1.length := List.length_map _
  have el2 : (a2.map eGLine).length = a2.length := List.length_map _
  simp only [Int.toNat_natCast] at *
  refine aw_rs ?_
  refine .as rfl (by rfl) ?_
  refine .nil (aq_then ?_)
  refine aw_rs ?_
  refine .mv rfl (by rfl) ?_
  refine .mv rfl (by rfl) ?_
  refine .v2 (f_sliceO (k1 := .i64) (k2 := .i64) (i := (i : Int)) (j := ((a1).length : Int)) (by rfl) sl22 (by simp) (by simp) (by omega) (by omega) (by omega)) rfl rfl rfl ?_
  refine .nil (aq_then ?_)
  refine aw_rs ?_
  refine .mv rfl (by rfl) ?_
  refine .v1 (f_lenO (by rfl) sl22 rfl) rfl rfl ?_
  refine .as rfl (by rfl) ?_
  refine .nil (aq_then ?_)
  refine aw_seq ?_
  refine aw_rs ?_
  refine .mv rfl (by rfl) ?_
  refine .bi (r := .bool false) rfl rfl (by simp [binI, hm]) rfl (by rfl) ?_
  refine .nil (aq_then ?_)
  refine aw_cond rfl (fun hx => absurd hx (by simp)) (fun _ => ?_)
  refine aw_skip ?_
  refine aq_then ?_
  refine aw_rs ?_
  refine .mv rfl (by rfl) ?_
  refine .v1 (f_lenO (by rfl) sl22 rfl) rfl rfl ?_
  refine .as rfl (by rfl) ?_
  refine .nil (aq_then ?_)
  refine aw_seq ?_
  refine aw_rs ?_
  refine .mv rfl (by rfl) ?_
  refine .mv rfl (by rfl) ?_
  refine .bi (r := .bool (decide (i = a1.length))) rfl rfl (by by_cases e : i = a1.length <;> simp [binI, e, Int.ofNat_inj]) rfl (by rfl) ?_
  refine .nil (aq_then ?_)
  refine aw_cond rfl (fun hx => ?_) (fun hx => ?_)
  · have hie : i = a1.length := by simpa using hx
    subst hie
    refine aw_rs ?_
    refine .mv rfl (by rfl) ?_
    refine .mv rfl (by rfl) ?_
    refine .w (f_appendC (m := a1.length + a2.length) (ys := a2.map eGLine) (xs := a1.map eGLine) (zs := (a1 ++ a2).map eGLine) 2 (by rfl) el22 (by simp) (by simp) (by simp) (by simp) (Nat.le_trans (Nat.mul_le_mul_right _ hb) (by decide)) (Nat.le_trans hb (by decide)) (srcO (o := 1) (n := a2.length) (xs := a2.map eGLine) (by omega) (by rw [List.drop_zero]; exact List.take_of_length_le (by omega)))) rfl (.c rfl (.c rfl .nil)) (.cons rfl (.cons rfl .nil)) (.cons rfl .nil) ?_
    refine .as rfl (by rfl) ?_
    refine .nil (aq_then ?_)
    refine aw_ret ?_
    refine aq_then_ret ?_
    have hr : (a1.take a1.length ++ a2 ++ a1.drop a1.length) = a1 ++ a2 := by simp
    rw [hr, show (a1 ++ a2).length = a1.length + a2.length from List.length_append]
    refine aq_k hb0 (.k 6 rfl .nil) (.k 2 rfl (.k 0 rfl (.k 1 rfl .nil))) ?_
    exact aq_fin1 (.tmp rfl (by rfl) .nil) rfl ⟨rfl, rfl⟩
  · have hlt : i < a1.length := by have : ¬ (i = a1.length) := by simpa using hx
                                   omega
    refine aw_skip ?_
    refine aq_then ?_
    refine aw_exact 0 (o := 0) (n := a1.length) (sz := 33) rfl (hb1 0 _ rfl) (by omega) (fun b base tot cap hB hc ht => ?_)
    refine aw_seq ?_
    refine aw_rs ?_
    refine .mv rfl (by rfl) ?_
    refine .mv rfl (by rfl) ?_
    refine .bi (r := .int .i64 ((a1.length + a2.length : Nat) : Int)) rfl rfl (bi_add hsum (by omega) (by omega)) rfl (by rfl) ?_
    refine .mv rfl (by rfl) ?_
    refine .v1 (f_capX (by rfl) sl22 rfl) rfl rfl ?_
    refine .bi (r := .bool (decide (cap < a1.length + a2.length))) rfl rfl (by simp only [binI]; congr 2; exact decide_eq_decide.2 (by omega)) rfl (by rfl) ?_
    refine .nil (aq_then ?_)
    refine aw_cond rfl (fun hx2 => ?_) (fun hx2 => ?_)
    · have hcap : cap < a1.length + a2.length := by simpa using hx2
      obtain ⟨z, hz1, hz2⟩ := zel_ex zlx78
      refine aw_rs ?_
      refine .mv rfl (by rfl) ?_
      refine .mv rfl (by rfl) ?_
      refine .v2 (f_sliceXE (k1 := .i64) (k2 := .i64) (i := 0) (j := (i : Int)) base i cap (by rfl) sl22 (by simp) (by simp) (by omega) (by omega) (by omega) (by omega) (by omega) (by omega) (by omega)) rfl rfl rfl ?_
      refine .mv rfl (by rfl) ?_
      refine .mv rfl (by rfl) ?_
      refine .bi (r := .int .i64 ((a1.length + a2.length : Nat) : Int)) rfl rfl (bi_add hsum (by omega) (by omega)) rfl (by rfl) ?_
      refine .mv rfl (by rfl) ?_
      refine .bi (r := .int .i64 ((a1.length + a2.length - i : Nat) : Int)) rfl rfl (bi_sub (by omega) (by omega) (by omega)) rfl (by rfl) ?_
      refine .w (f_appendZG (o := 0) (n := a1.length) (i := i) (kz := a1.length + a2.length - i) (m := a1.length + a2.length) (z := z) (xs := a1.map eGLine) 2 (by rfl) el22 un3 hz1 hz2 hB el1 hi1 (by omega) (by omega) (by omega) (Nat.le_trans (Nat.mul_le_mul_right _ hb) (by decide)) (Nat.le_trans hb (by decide))) rfl (.c rfl (.c rfl .nil)) (.cons rfl .nil) (.cons rfl .nil) ?_
      refine .as rfl (by rfl) ?_
      refine .nil (aq_then ?_)
      refine aw_rs ?_
      refine .mv rfl (by rfl) ?_
      refine .mv rfl (by rfl) ?_
      refine .v2 (f_sliceO (k1 := .i64) (k2 := .i64) (i := (i : Int)) (j := ((a1.length + a2.length : Nat) : Int)) (by rfl) sl22 (by simp) (by simp) (by omega) (by omega) (by omega)) rfl rfl rfl ?_
      refine .mv rfl (by rfl) ?_
      have zs1 := ins1 (E := a1.map eGLine) (V := a2.map eGLine) (z := z) (i := i) (by omega)
      have zs2 := ins2 (E := a1.map eGLine) (V := a2.map eGLine) (z := z) (i := i) (by omega)
      rw [el1, el2] at zs1 zs2
      refine .w (hn := []) (f_copyO (o := 2) (c := a2.length) (ys := a2.map eGLine) (by rfl) sl22 (by simp only [Int.toNat_natCast]; omega) (by simp only [List.length_append, List.length_take, List.length_replicate, el1]; omega) (by simp only [Int.toNat_natCast, el2]; exact (Nat.min_eq_left (by omega)).symm) (by simp only [Int.toNat_natCast, Nat.zero_add]; exact zs1) (srcO (o := 1) (n := a2.length) (xs := a2.map eGLine) (by omega) (by rw [List.drop_zero]; exact List.take_of_length_le (by omega)))) rfl (.c rfl (.c rfl .nil)) (.cons rfl (.cons rfl .nil)) .nil ?_
      refine .nil (aq_then ?_)
      refine aw_unexact 0 (o := 0) (sz := 33) rfl hB hc ht ?_
      refine aw_rds ?_
      refine .v1 (f_move (by rfl)) rfl rfl ?_
      refine .v1 (f_move (by rfl)) rfl rfl ?_
      refine .v1 (f_move (by rfl)) rfl rfl ?_
      refine .v2 (f_binI (r := .int .i64 ((i + a2.length : Nat) : Int)) (by rfl) (bi_add (by omega) (by omega) (by omega)) (by rfl)) rfl rfl rfl ?_
      refine .v2 (f_sliceO (k1 := .i64) (k2 := .i64) (i := ((i + a2.length : Nat) : Int)) (j := ((a1.length + a2.length : Nat) : Int)) (by rfl) sl22 (by simp) (by simp) (by omega) (by omega) (by omega)) rfl rfl rfl ?_
      refine .v1 (f_move (by rfl)) rfl rfl ?_
      refine .v1 (f_move (by rfl)) rfl rfl ?_
      refine .v2 (f_sliceO (k1 := .i64) (k2 := .i64) (i := (i : Int)) (j := ((a1.length : Nat) : Int)) (by rfl) sl22 (by simp) (by simp) (by omega) (by omega) (by omega)) rfl rfl rfl ?_
      refine .w (hn := []) (f_copyO (o := 2) (c := a1.length - i) (ys := (a1.map eGLine).drop i) (by rfl) sl22 (by simp only [Int.toNat_natCast]; omega) (by simp only [List.length_append, List.length_take, List.length_replicate, el1, el2]; omega) (by simp only [Int.toNat_natCast, List.length_drop, el1]; exact (Nat.min_eq_left (by omega)).symm) (by simp only [Int.toNat_natCast, Nat.zero_add]; exact zs2) (srcO (o := 0) (n := a1.length) (xs := a1.map eGLine) (by omega) (by simp only [Int.toNat_natCast, Nat.zero_add]; exact List.take_of_length_le (by rw [List.length_drop]; omega)))) rfl (.c rfl (.c rfl .nil)) (.cons rfl (.cons rfl .nil)) .nil ?_
      refine .nil (by kernel_rfl) ?_
      refine aw_rs ?_
      refine .mv rfl (by rfl) ?_
      refine .as rfl (by rfl) ?_
      refine .nil (aq_then ?_)
      refine aw_ret ?_
      refine aq_then_ret ?_
      rw [hlen, hmap]
      refine aq_kill 0 rfl ?_
      refine aq_k hb0 (.k 6 rfl .nil) (.k 2 rfl (.k 0 rfl (.k 1 rfl .nil))) ?_
      exact aq_fin1 (.tmp rfl (by rfl) .nil) rfl ⟨rfl, rfl⟩
    · have hcap : a1.length + a2.length ≤ cap := by have : ¬ (cap < a1.length + a2.length) := by simpa using hx2
                                                    omega
      have hcs : (a1.length + a2.length) * 33 ≤ cap * 33 := Nat.mul_le_mul_right _ hcap
      refine aw_skip ?_
      refine aq_then ?_
      refine aw_rs ?_
      refine .mv rfl (by rfl) ?_
      refine .mv rfl (by rfl) ?_
      refine .mv rfl (by rfl) ?_
      refine .bi (r := .int .i64 ((a1.length + a2.length : Nat) : Int)) rfl rfl (bi_add hsum (by omega) (by omega)) rfl (by rfl) ?_
      refine .v2 (f_sliceXE (k1 := .i64) (k2 := .i64) (i := 0) (j := ((a1.length + a2.length : Nat) : Int)) base (a1.length + a2.length) cap (by rfl) sl22 (by simp) (by simp) (by omega) (by omega) (by omega) (by omega) (by omega) (by omega) (by omega)) rfl rfl rfl ?_
      refine .as rfl (by rfl) ?_
      refine .nil (aq_then ?_)
      refine aw_seq ?_
      refine aw_rs ?_
      refine .mv rfl (by rfl) ?_
      refine .mv rfl (by rfl) ?_
      refine .mv rfl (by rfl) ?_
      refine .mv rfl (by rfl) ?_
      refine .bi (r := .int .i64 ((i + a2.length : Nat) : Int)) rfl rfl (bi_add (by omega) (by omega) (by omega)) rfl (by rfl) ?_
      refine .v2 (f_sliceXE (k1 := .i64) (k2 := .i64) (i := ((i + a2.length : Nat) : Int)) (j := ((a1.length + a2.length : Nat) : Int)) (base + (i + a2.length) * 33) (a1.length - i) (cap - (i + a2.length)) (by rfl) sl22 (by simp) (by simp) (by omega) (by omega) (by omega) (by omega) (by omega) (by omega) (by omega)) rfl rfl rfl ?_
      refine .v (f_overlaps (o := 0) (o1 := 1) (by rfl) Tryz.func119 (by rfl) (by rfl) exn78 exf78 sl22 hB (by omega) (by omega) (by decide)) rfl (.c rfl (.c rfl .nil)) (.cons rfl (.cons rfl .nil)) ?_
      refine .v1 (f_not (by rfl)) rfl rfl ?_
      refine .nil (aq_then ?_)
      refine aw_cond rfl (fun _ => ?_) (fun hx => absurd hx (by simp))
      refine aw_rds ?_
      refine .v1 (f_move (by rfl)) rfl rfl ?_
      refine .v1 (f_move (by rfl)) rfl rfl ?_
      refine .v1 (f_move (by rfl)) rfl rfl ?_
      refine .v2 (f_binI (r := .int .i64 ((i + a2.length : Nat) : Int)) (by rfl) (bi_add (by omega) (by omega) (by omega)) (by rfl)) rfl rfl rfl ?_
      refine .v2 (f_sliceXE (k1 := .i64) (k2 := .i64) (i := ((i + a2.length : Nat) : Int)) (j := ((a1.length + a2.length : Nat) : Int)) (base + (i + a2.length) * 33) (a1.length - i) (cap - (i + a2.length)) (by rfl) sl22 (by simp) (by simp) (by omega) (by omega) (by omega) (by omega) (by omega) (by omega) (by omega)) rfl rfl rfl ?_
      refine .v1 (f_move (by rfl)) rfl rfl ?_
      refine .v1 (f_move (by rfl)) rfl rfl ?_
      refine .v2 (f_sliceXE (k1 := .i64) (k2 := .i64) (i := (i : Int)) (j := ((a1.length + a2.length : Nat) : Int)) (base + i * 33) (a1.length + a2.length - i) (cap - i) (by rfl) sl22 (by simp) (by simp) (by omega) (by omega) (by omega) (by omega) (by omega) (by omega) (by omega)) rfl rfl rfl ?_
      refine .w (hn := []) (f_copyX (o := 0) (n := a1.length) (p := i + a2.length) (q := i) (c := a1.length - i) (n' := a1.length + a2.length) (xs := a1.map eGLine) (zs := (a1.map eGLine).take (i + a2.length) ++ (a1.map eGLine).drop i) (base + (i + a2.length) * 33) (base + i * 33) (by rfl) sl22 hB el1 (Nat.min_eq_right (by omega)).symm rfl rfl (by omega) (by omega) (by omega) (by rw [show i + a2.length + (a1.length - i) = a1.length + a2.length from by omega]; omega) (by omega) (by rw [List.take_of_length_le (l := (a1.map eGLine).drop i) (by rw [List.length_drop, el1]; exact Nat.le_refl _)])) rfl (.c rfl (.c rfl .nil)) (.cons rfl .nil) .nil ?_
      refine .nil (by kernel_rfl) ?_
      refine aw_unexact 0 (o := 0) (sz := 33) rfl hB hcap ht ?_
      have zs3 := ins3 (E := a1.map eGLine) (V := a2.map eGLine) (i := i) (by omega)
      rw [el2] at zs3
      refine aw_rs ?_
      refine .mv rfl (by rfl) ?_
      refine .mv rfl (by rfl) ?_
      refine .v2 (f_sliceO (k1 := .i64) (k2 := .i64) (i := (i : Int)) (j := ((a1.length + a2.length : Nat) : Int)) (by rfl) sl22 (by simp) (by simp) (by omega) (by omega) (by omega)) rfl rfl rfl ?_
      refine .mv rfl (by rfl) ?_
      refine .w (hn := []) (f_copyO (o := 0) (c := a2.length) (ys := a2.map eGLine) (by rfl) sl22 (by simp only [Int.toNat_natCast]; omega) (by simp only [List.length_append, List.length_take, List.length_drop, el1]; omega) (by simp only [Int.toNat_natCast, el2]; exact (Nat.min_eq_left (by omega)).symm) (by simp only [Int.toNat_natCast, Nat.zero_add]; exact zs3) (srcO (o := 1) (n := a2.length) (xs := a2.map eGLine) (by omega) (by rw [List.drop_zero]; exact List.take_of_length_le (by omega)))) rfl (.c rfl (.c rfl .nil)) (.cons rfl (.cons rfl .nil)) .nil ?_
      refine .nil (aq_then ?_)
      refine aw_rs ?_
      refine .mv rfl (by rfl) ?_
      refine .as rfl (by rfl) ?_
      refine .nil (aq_then ?_)
      refine aw_ret ?_
      refine aq_then_ret ?_
      rw [hlen, hmap]
      refine aq_anewE 6 2 rfl rfl rfl rfl (by omega) rfl ?_
      refine aq_k hb0 (.k 6 rfl .nil) (.k 2 rfl (.k 0 rfl (.k 1 rfl .nil))) ?_
      exact aq_fin1 (.tmp rfl (by rfl) .nil) rfl ⟨rfl, rfl⟩
theorem zlx91 : ((zelB Tryz.prog 28).map fun cs => cs.all leafV) = some true := by kernel_rfl
theorem exf91 : Extern.find Tryz.f130 = some (Extern.SlicesOverlaps.overlaps #[28, 28] #[4]) := by kernel_rfl
theorem exn91 : Extern.findNext Tryz.f130 = none := by kernel_rfl
def F91_Insert (n : Nat) (a0 : Int) (a1 a2 : List GTx) : Option (List GTx) := if 0 ≤ a0 ∧ a0 ≤ a1.length ∧ a2.length = 1 ∧ a1.length + a2.length ≤ 1073741824 then some (a1.take a0.toNat ++ a2 ++ a1.drop a0.toNat) else none
theorem F91_Insert_ok {n : Nat} {a0 : Int} {a1 a2 r : List GTx} (h : F91_Insert n a0 a1 a2 = some r) :
    ACall Tryz.prog GS 91 [.slc 0 0 (a1).length 99, .I a0, .slc 1 0 (a2).length 99] [(0, .av (.d (.arr 99 (a1).length ((a1).map eGTx)))), (1, .av (.d (.arr 99 (a2).length ((a2).map eGTx))))]
      (fun r' hp' => r' = .slc 2 0 (r).length 99 ∧ hp' = [(2, .av (.d (.arr 99 (r).length ((r).map eGTx)))), (0, .dead), (1, .av (.d (.arr 99 (a2).length ((a2).map eGTx))))]) := by
  refine acall_of_body1 mixed Tryz.func91 rfl (by rfl) ?_
  intro C hro hgl hb0 hb1
  unfold F91_Insert at h
  obtain ⟨⟨h0, h1, hm, hb⟩, h⟩ := ifp h
  obtain rfl := Option.some.inj h
  obtain ⟨i, rfl⟩ := Int.eq_ofNat_of_zero_le h0
  have hi1 : i ≤ a1.length := by omega
  have hsum : (((a1).length : Int) + ((a2).length : Int)) = ((a1.length + a2.length : Nat) : Int) := by omega
  have hlen : ((a1.take i ++ a2 ++ a1.drop i).length) = a1.length + a2.length := by simp only [List.length_append, List.length_take, List.length_drop]; omega
  have hmap : (a1.take i ++ a2 ++ a1.drop i).map eGTx = (a1.map eGTx).take i ++ a2.map eGTx ++ (a1.map eGTx).drop i := by simp only [List.map_append, List.map_take, List.map_drop]
  have el1 : (a1.map eGTx).length = a1.length := List.length_map _
  have el2 : (a2.map eGTx).length = a2.length := List.length_map _
  simp only [Int.toNat_natCast] at *
  refine aw_rs ?_
  refine .as rfl (by rfl) ?_
  refine .nil (aq_then ?_)
  refine aw_rs ?_
  refine .mv rfl (by rfl) ?_
  refine .mv rfl (by rfl) ?_
  refine .v2 (f_sliceO (k1 := .i64) (k2 := .i64) (i := (i : Int)) (j := ((a1).length : Int)) (by rfl) sl28 (by simp) (by simp) (by omega) (by omega) (by omega)) rfl rfl rfl ?_
  refine .nil (aq_then ?_)
  refine aw_rs ?_
  refine .mv rfl (by rfl) ?_
  refine .v1 (f_lenO (by rfl) sl28 rfl) rfl rfl ?_
  refine .as rfl (by rfl) ?_
  refine .nil (aq_then ?_)
  refine aw_seq ?_
  refine aw_rs ?_
  refine .mv rfl (by rfl) ?_
  refine .bi (r := .bool false) rfl rfl (by simp [binI, hm]) rfl (by rfl) ?_
  refine .nil (aq_then ?_)
  refine aw_cond rfl (fun hx => absurd hx (by simp)) (fun _ => ?_)
  refine aw_skip ?_
  refine aq_then ?_
  refine aw_rs ?_
  refine .mv rfl (by rfl) ?_
  refine .v1 (f_lenO (by rfl) sl28 rfl) rfl rfl ?_
  refine .as rfl (by rfl) ?_
  refine .nil (aq_then ?_)
  refine aw_seq ?_
  refine aw_rs ?_
  refine .mv rfl (by rfl) ?_
  refine .mv rfl (by rfl) ?_
  refine .bi (r := .bool (decide (i = a1.length))) rfl rfl (by by_cases e : i = a1.length <;> simp [binI, e, Int.ofNat_inj]) rfl (by rfl) ?_
  refine .nil (aq_then ?_)
  refine aw_cond rfl (fun hx => ?_) (fun hx => ?_)
  · have hie : i = a1.length := by simpa using hx
    subst hie
    refine aw_rs ?_
    refine .mv rfl (by rfl) ?_
    refine .mv rfl (by rfl) ?_
    refine .w (f_appendC (m := a1.length + a2.length) (ys := a2.map eGTx) (xs := a1.map eGTx) (zs := (a1 ++ a2).map eGTx) 2 (by rfl) el28 (by simp) (by simp) (by simp) (by simp) (Nat.le_trans (Nat.mul_le_mul_right _ hb) (by decide)) (Nat.le_trans hb (by decide)) (srcO (o := 1) (n := a2.length) (xs := a2.map eGTx) (by omega) (by rw [List.drop_zero]; exact List.take_of_length_le (by omega)))) rfl (.c rfl (.c rfl .nil)) (.cons rfl (.cons rfl .nil)) (.cons rfl .nil) ?_
    refine .as rfl (by rfl) ?_
    refine .nil (aq_then ?_)
    refine aw_ret ?_
    refine aq_then_ret ?_
    have hr : (a1.take a1.length ++ a2 ++ a1.drop a1.length) = a1 ++ a2 := by simp
    rw [hr, show (a1 ++ a2).length = a1.length + a2.length from List.length_append]
    refine aq_k hb0 (.k 6 rfl .nil) (.k 2 rfl (.k 0 rfl (.k 1 rfl .nil))) ?_
    exact aq_fin1 (.tmp rfl (by rfl) .nil) rfl ⟨rfl, rfl⟩
  · have hlt : i < a1.length := by have : ¬ (i = a1.length) := by simpa using hx
                                   omega
    refine aw_skip ?_
    refine aq_then ?_
    refine aw_exact 0 (o := 0) (n := a1.length) (sz := 99) rfl (hb1 0 _ rfl) (by omega) (fun b base tot cap hB hc ht => ?_)
    refine aw_seq ?_
    refine aw_rs ?_
    refine .mv rfl (by rfl) ?_
    refine .mv rfl (by rfl) ?_
    refine .bi (r := .int .i64 ((a1.length + a2.length : Nat) : Int)) rfl rfl (bi_add hsum (by omega) (by omega)) rfl (by rfl) ?_
    refine .mv rfl (by rfl) ?_
    refine .v1 (f_capX (by rfl) sl28 rfl) rfl rfl ?_
    refine .bi (r := .bool (decide (cap < a1.length + a2.length))) rfl rfl (by simp only [binI]; congr 2; exact decide_eq_decide.2 (by omega)) rfl (by rfl) ?_
    refine .nil (aq_then ?_)
    refine aw_cond rfl (fun hx2 => ?_) (fun hx2 => ?_)
    · have hcap : cap < a1.length + a2.length := by simpa using hx2
      obtain ⟨z, hz1, hz2⟩ := zel_ex zlx91
      refine aw_rs ?_
      refine .mv rfl (by rfl) ?_
      refine .mv rfl (by rfl) ?_
      refine .v2 (f_sliceXE (k1 := .i64) (k2 := .i64) (i := 0) (j := (i : Int)) base i cap (by rfl) sl28 (by simp) (by simp) (by omega) (by omega) (by omega) (by omega) (by omega) (by omega) (by omega)) rfl rfl rfl ?_
      refine .mv rfl (by rfl) ?_
      refine .mv rfl (by rfl) ?_
      refine .bi (r := .int .i64 ((a1.length + a2.length : Nat) : Int)) rfl rfl (bi_add hsum (by omega) (by omega)) rfl (by rfl) ?_
      refine .mv rfl (by rfl) ?_
      refine .bi (r := .int .i64 ((a1.length + a2.length - i : Nat) : Int)) rfl rfl (bi_sub (by omega) (by omega) (by omega)) rfl (by rfl) ?_
      refine .w (f_appendZG (o := 0) (n := a1.length) (i := i) (kz := a1.length + a2.length - i) (m := a1.length + a2.length) (z := z) (xs := a1.map eGTx) 2 (by rfl) el28 un3 hz1 hz2 hB el1 hi1 (by omega) (by omega) (by omega) (Nat.le_trans (Nat.mul_le_mul_right _ hb) (by decide)) (Nat.le_trans hb (by decide))) rfl (.c rfl (.c rfl .nil)) (.cons rfl .nil) (.cons rfl .nil) ?_
      refine .as rfl (by rfl) ?_
      refine .nil (aq_then ?_)
      refine aw_rs ?_
      refine .mv rfl (by rfl) ?_
      refine .mv rfl (by rfl) ?_
      refine .v2 (f_sliceO (k1 := .i64) (k2 := .i64) (i := (i : Int)) (j := ((a1.length + a2.length : Nat) : Int)) (by rfl) sl28 (by simp) (by simp) (by omega) (by omega) (by omega)) rfl rfl rfl ?_
      refine .mv rfl (by rfl) ?_
      have zs1 := ins1 (E := a1.map eGTx) (V := a2.map eGTx) (z := z) (i := i) (by omega)
      have zs2 := ins2 (E := a1.map eGTx) (V := a2.map eGTx) (z := z) (i := i) (by omega)
      rw [el1, el2] at zs1 zs2
      refine .w (hn := []) (f_copyO (o := 2) (c := a2.length) (ys := a2.map eGTx) (by rfl) sl28 (by simp only [Int.toNat_natCast]; omega) (by simp only [List.length_append, List.length_take, List.length_replicate, el1]; omega) (by simp only [Int.toNat_natCast, el2]; exact (Nat.min_eq_left (by omega)).symm) (by simp only [Int.toNat_natCast, Nat.zero_add]; exact zs1) (srcO (o := 1) (n := a2.length) (xs := a2.map eGTx) (by omega) (by rw [List.drop_zero]; exact List.take_of_length_le (by omega)))) rfl (.c rfl (.c rfl .nil)) (.cons rfl (.cons rfl .nil)) .nil ?_
      refine .nil (aq_then ?_)
      refine aw_unexact 0 (o := 0) (sz := 99) rfl hB hc ht ?_
      refine aw_rds ?_
      refine .v1 (f_move (by rfl)) rfl rfl ?_
      refine .v1 (f_move (by rfl)) rfl rfl ?_
      refine .v1 (f_move (by rfl)) rfl rfl ?_
      refine .v2 (f_binI (r := .int .i64 ((i + a2.length : Nat) : Int)) (by rfl) (bi_add (by omega) (by omega) (by omega)) (by rfl)) rfl rfl rfl ?_
      refine .v2 (f_sliceO (k1 := .i64) (k2 := .i64) (i := ((i + a2.length : Nat) : Int)) (j := ((a1.length + a2.length : Nat) : Int)) (by rfl) sl28 (by simp) (by simp) (by omega) (by omega) (by omega)) rfl rfl rfl ?_
      refine .v1 (f_move (by rfl)) rfl rfl ?_
      refine .v1 (f_move (by rfl)) rfl rfl ?_
      refine .v2 (f_sliceO (k1 := .i64) (k2 := .i64) (i := (i : Int)) (j := ((a1.length : Nat) : Int)) (by rfl) sl28 (by simp) (by simp) (by omega) (by omega) (by omega)) rfl rfl rfl ?_
      refine .w (hn := []) (f_copyO (o := 2) (c := a1.length - i) (ys := (a1.map eGTx).drop i) (by rfl) sl28 (by simp only [Int.toNat_natCast]; omega) (by simp only [List.length_append, List.length_take, List.length_replicate, el1, el2]; omega) (by simp only [Int.toNat_natCast, List.length_drop, el1]; exact (Nat.min_eq_left (by omega)).symm) (by simp only [Int.toNat_natCast, Nat.zero_add]; exact zs2) (srcO (o := 0) (n := a1.length) (xs := a1.map eGTx) (by omega) (by simp only [Int.toNat_natCast, Nat.zero_add]; exact List.take_of_length_le (by rw [List.length_drop]; omega)))) rfl (.c rfl (.c rfl .nil)) (.cons rfl (.cons rfl .nil)) .nil ?_
      refine .nil (by kernel_rfl) ?_
      refine aw_rs ?_
      refine .mv rfl (by rfl) ?_
      refine .as rfl (by rfl) ?_
      refine .nil (aq_then ?_)
      refine aw_ret ?_
      refine aq_then_ret ?_
      rw [hlen, hmap]
      refine aq_kill 0 rfl ?_
      refine aq_k hb0 (.k 6 rfl .nil) (.k 2 rfl (.k 0 rfl (.k 1 rfl .nil))) ?_
      exact aq_fin1 (.tmp rfl (by rfl) .nil) rfl ⟨rfl, rfl⟩
    · have hcap : a1.length + a2.length ≤ cap := by have : ¬ (cap < a1.length + a2.length) := by simpa using hx2
                                                    omega
      have hcs : (a1.length + a2.length) * 99 ≤ cap * 99 := Nat.mul_le_mul_right _ hcap
      refine aw_skip ?_
      refine aq_then ?_
      refine aw_rs ?_
      refine .mv rfl (by rfl) ?_
      refine .mv rfl (by rfl) ?_
      refine .mv rfl (by rfl) ?_
      refine .bi (r := .int .i64 ((a1.length + a2.length : Nat) : Int)) rfl rfl (bi_add hsum (by omega) (by omega)) rfl (by rfl) ?_
      refine .v2 (f_sliceXE (k1 := .i64) (k2 := .i64) (i := 0) (j := ((a1.length + a2.length : Nat) : Int)) base (a1.length + a2.length) cap (by rfl) sl28 (by simp) (by simp) (by omega) (by omega) (by omega) (by omega) (by omega) (by omega) (by omega)) rfl rfl rfl ?_
      refine .as rfl (by rfl) ?_
      refine .nil (aq_then ?_)
      refine aw_seq ?_
      refine aw_rs ?_
      refine .mv rfl (by rfl) ?_
      refine .mv rfl (by rfl) ?_
      refine .mv rfl (by rfl) ?_
      refine .mv rfl (by rfl) ?_
      refine .bi (r := .int .i64 ((i + a2.length : Nat) : Int)) rfl rfl (bi_add (by omega) (by omega) (by omega)) rfl (by rfl) ?_
      refine .v2 (f_sliceXE (k1 := .i64) (k2 := .i64) (i := ((i + a2.length : Nat) : Int)) (j := ((a1.length + a2.length : Nat) : Int)) (base + (i + a2.length) * 99) (a1.length - i) (cap - (i + a2.length)) (by rfl) sl28 (by simp) (by simp) (by omega) (by omega) (by omega) (by omega) (by omega) (by omega) (by omega)) rfl rfl rfl ?_
      refine .v (f_overlaps (o := 0) (o1 := 1) (by rfl) Tryz.func130 (by rfl) (by rfl) exn91 exf91 sl28 hB (by omega) (by omega) (by decide)) rfl (.c rfl (.c rfl .nil)) (.cons rfl (.cons rfl .nil)) ?_
      refine .v1 (f_not (by rfl)) rfl rfl ?_
      refine .nil (aq_then ?_)
      refine aw_cond rfl (fun _ => ?_) (fun hx => absurd hx (by simp))
      refine aw_rds ?_
      refine .v1 (f_move (by rfl)) rfl rfl ?_
      refine .v1 (f_move (by rfl)) rfl rfl ?_
      refine .v1 (f_move (by rfl)) rfl rfl ?_
      refine .v2 (f_binI (r := .int .i64 ((i + a2.length : Nat) : Int)) (by rfl) (bi_add (by omega) (by omega) (by omega)) (by rfl)) rfl rfl rfl ?_
      refine .v2 (f_sliceXE (k1 := .i64) (k2 := .i64) (i := ((i + a2.length : Nat) : Int)) (j := ((a1.length + a2.length : Nat) : Int)) (base + (i + a2.length) * 99) (a1.length - i) (cap - (i + a2.length)) (by rfl) sl28 (by simp) (by simp) (by omega) (by omega) (by omega) (by omega) (by omega) (by omega) (by omega)) rfl rfl rfl ?_
      refine .v1 (f_move (by rfl)) rfl rfl ?_
      refine .v1 (f_move (by rfl)) rfl rfl ?_
      refine .v2 (f_sliceXE (k1 := .i64) (k2 := .i64) (i := (i : Int)) (j := ((a1.length + a2.length : Nat) : Int)) (base + i * 99) (a1.length + a2.length - i) (cap - i) (by rfl) sl28 (by simp) (by simp) (by omega) (by omega) (by omega) (by omega) (by omega) (by omega) (by omega)) rfl rfl rfl ?_
      refine .w (hn := []) (f_copyX (o := 0) (n := a1.length) (p := i + a2.length) (q := i) (c := a1.length - i) (n' := a1.length + a2.length) (xs := a1.map eGTx) (zs := (a1.map eGTx).take (i + a2.length) ++ (a1.map eGTx).drop i) (base + (i + a2.length) * 99) (base + i * 99) (by rfl) sl28 hB el1 (Nat.min_eq_right (by omega)).symm rfl rfl (by omega) (by omega) (by omega) (by rw [show i + a2.length + (a1.length - i) = a1.length + a2.length from by omega]; omega) (by omega) (by rw [List.take_of_length_le (l := (a1.map eGTx).drop i) (by rw [List.length_drop, el1]; exact Nat.le_refl _)])) rfl (.c rfl (.c rfl .nil)) (.cons rfl .nil) .nil ?_
      refine .nil (by kernel_rfl) ?_
      refine aw_unexact 0 (o := 0) (sz := 99) rfl hB hcap ht ?_
      have zs3 := ins3 (E := a1.map eGTx) (V := a2.map eGTx) (i := i) (by omega)
      rw [el2] at zs3
      refine aw_rs ?_
      refine .mv rfl (by rfl) ?_
      refine .mv rfl (by rfl) ?_
      refine .v2 (f_sliceO (k1 := .i64) (k2 := .i64) (i := (i : Int)) (j := ((a1.length + a2.length : Nat) : Int)) (by rfl) sl28 (by simp) (by simp) (by omega) (by omega) (by omega)) rfl rfl rfl ?_
      refine .mv rfl (by rfl) ?_
      refine .w (hn := []) (f_copyO (o := 0) (c := a2.length) (ys := a2.map eGTx) (by rfl) sl28 (by simp only [Int.toNat_natCast]; omega) (by simp only [List.length_append, List.length_take, List.length_drop, el1]; omega) (by simp only [Int.toNat_natCast, el2]; exact (Nat.min_eq_left (by omega)).symm) (by simp only [Int.toNat_natCast, Nat.zero_add]; exact zs3) (srcO (o := 1) (n := a2.length) (xs := a2.map eGTx) (by omega) (by rw [List.drop_zero]; exact List.take_of_length_le (by omega)))) rfl (.c rfl (.c rfl .nil)) (.cons rfl (.cons rfl .nil)) .nil ?_
      refine .nil (aq_then ?_)
      refine aw_rs ?_
      refine .mv rfl (by rfl) ?_
      refine .as rfl (by rfl) ?_
      refine .nil (aq_then ?_)
      refine aw_ret ?_
      refine aq_then_ret ?_
      rw [hlen, hmap]
      refine aq_anewE 6 2 rfl rfl rfl rfl (by omega) rfl ?_
      refine aq_k hb0 (.k 6 rfl .nil) (.k 2 rfl (.k 0 rfl (.k 1 rfl .nil))) ?_
      exact aq_fin1 (.tmp rfl (by rfl) .nil) rfl ⟨rfl, rfl⟩
def F112_Clone (n : Nat) (a0 : List Int) : Option (List Int) := if a0.length ≤ 1073741824 then some a0 else none
theorem F112_Clone_ok {n : Nat} {a0 r : List Int} (h : F112_Clone n a0 = some r) :
    ACall Tryz.prog GS 112 [.d (eL70 a0)] [] (fun r' hp' => r' = .slc 0 0 (r).length 1 ∧ hp' = [(0, .av (.d (.arr 1 (r).length ((r).map eI_u8))))]) := by
  refine acall_of_body mixed Tryz.func112 rfl (by rfl) ?_
  intro C hro hgl hb0
  unfold F112_Clone at h
  obtain ⟨hb, h⟩ := ifp h
  obtain rfl := Option.some.inj h
  refine aw_rs ?_
  refine .as rfl (by rfl) ?_
  refine .nil (aq_then ?_)
  refine aw_seq ?_
  refine aw_rs ?_
  refine .mv rfl (by rfl) ?_
  refine .eqNil (by rfl) sl70 rfl rfl rfl (fun hnil => ?_) ?_
  · obtain rfl := List.map_eq_nil_iff.1 hnil
    refine .nil (aq_then ?_)
    refine aw_cond rfl (fun _ => ?_) (fun hx => absurd hx (by simp))
    refine aw_rs ?_
    refine .as rfl (by rfl) ?_
    refine .nil (aq_then ?_)
    refine aw_ret ?_
    refine aq_then_ret ?_
    refine aq_adopt 2 0 1 rfl rfl ?_
    refine aq_k hb0 (.k 2 rfl .nil) (.k 0 rfl .nil) ?_
    exact aq_fin1 (.tmp rfl (by rfl) .nil) rfl ⟨rfl, rfl⟩
  · refine .nil (aq_then ?_)
    refine aw_cond rfl (fun hx => absurd hx (by simp)) (fun _ => ?_)
    refine aw_skip ?_
    refine aq_then ?_
    refine aw_rs ?_
    refine .n (f_buildS0 1 (by rfl) el70) rfl .nil rfl ?_
    refine .mv rfl (by rfl) ?_
    refine .w (f_appendC (m := a0.length) (ys := (a0 : List Int).map eI_u8) (xs := ([] : List D)) (zs := (a0).map eI_u8) 0 (by rfl) el70 (by simp) (by simp) (by simp) (by simp) (Nat.le_trans (Nat.mul_le_mul_right _ hb) (by decide)) (Nat.le_trans hb (by decide)) srcD) rfl (.c rfl (.c rfl .nil)) (.cons rfl .nil) (.cons rfl .nil) ?_
    refine .as rfl (by rfl) ?_
    refine .nil (aq_then ?_)
    refine aw_ret ?_
    refine aq_k hb0 (.k 2 rfl .nil) (.k 0 rfl .nil) ?_
    exact aq_fin1 (.tmp rfl (by rfl) .nil) rfl ⟨rfl, rfl⟩
def apartF (a0 a1 : List Int) : Nat → Int → Option (Option (Int × Int))
  | 0, _ => none
  | n + 1, i => (if (decide (i < (32 : Int))) = true then ((rd a0 i).bind fun (x : Int) => ((rd a1 i).bind fun (y : Int) =>
      (if ((bXor .u8 x y) != (0 : Int)) = true then some (some (i, bXor .u8 x y)) else apartF a0 a1 n (IntKind.i64.wrap (i + (1 : Int)))))) else some none)
theorem Fap_ok {a0 a1 : List Int} : ACall Tryz.prog [] 107 [.d (eA46 a0), .d (eA46 a1)] [] (fun r' hp' => r' = .fn (.func 140) [] [.ptr 2 0 [], .ptr 3 0 []] ∧ hp' = [(3, .av (.d (eA46 a1))), (2, .av (.d (eA46 a0)))]) := by
  refine acall_of_body mixed Tryz.func107 rfl (by rfl) ?_
  intro C hro hgl hb0
  refine aw_rs ?_
  refine .n (f_box 2 (by rfl) (by rfl)) rfl (.c rfl .nil) rfl ?_
  refine .n (f_box 3 (by rfl) (by rfl)) rfl (.c rfl .nil) rfl ?_
  refine .v1 (f_assign (by rfl)) rfl rfl ?_
  refine .nil (aq_then ?_)
  refine aw_rs ?_
  refine .v2 (f_makeFunc (xs := []) (ys := [.ptr 2 0 [], .ptr 3 0 []]) (by rfl) rfl rfl (by rfl) (by rfl)) rfl rfl rfl ?_
  refine .v1 (f_assign (by rfl)) rfl rfl ?_
  refine .nil (aq_then ?_)
  refine aw_ret ?_
  exact aq_fin1 (.tmp rfl (by rfl) .nil) rfl ⟨rfl, rfl⟩
theorem apart_walk {n : Nat} {a0 a1 : List Int} {res : Option (Int × Int)} (h : apartF a0 a1 n 0 = some res) : ∃ c1, Tryz.f140.body = some c1 ∧
    ∀ (C1 : Ctx Tryz.prog Tryz.f140.ntmps) (r : Loop) (E : Exit → Act → World → Prop) (hp : Heap) (A B L ns2 : Nat) (envo : Env), r.state = .ready → hp.get A = some (.av (.d (eA46 a0))) → hp.get B = some (.av (.d (eA46 a1))) → hp.get L = some (.raw (.loop r)) →
      r.params.toList.length = 2 → (r.params.toList.all (Nat.blt · ns2)) = true → Pin C1 ns2 envo r.tmps →
      (res = none → ∀ env, AQ C1 E .normal ⟨env, hp, []⟩) →
      (∀ i x, res = some (i, x) → ∀ (C2 : Ctx Tryz.prog ns2) (Y A' : Exit → Act → World → Prop), (∃ l, C2.round = some l) → C2.globs = C1.globs → (∀ o, hp.get o = none → C2.base o = none) →
        (∀ s2, s2.dfs = [] → s2.hp.get L = some (.raw (.loop { r with state := .busy })) →
          (∀ env, AQ C1 E .normal ⟨env, (L, .raw (.loop { r with state := .done, pending := some .ret })) :: s2.hp, []⟩) → AQ C2 Y .ret s2) →
        (∀ s2, s2.hp.get L = some (.raw (.loop r)) → AW C2 r.body Y ⟨s2.env, (L, .raw (.loop { r with state := .busy })) :: s2.hp, s2.dfs⟩ → AQ C2 A' .normal s2) →
        AW C2 r.assign A' ⟨paramEnv r.params.toList [.I i, .d (.val (.int .u8 x))] envo, hp, []⟩) →
      AW C1 c1 E ⟨argEnv (.yld L :: [.ptr A 0 [], .ptr B 0 []]) 0, hp, []⟩ := by
  refine ⟨_, rfl, ?_⟩
  intro C r E hp A B L ns2 envo hst hA hB hL hps hlt2 hpin hnone hsome
  refine aw_scope ?_
  refine aw_seq ?_
  refine aw_label ?_
  refine aq_then ?_
  refine aw_rs ?_
  refine .v1 (f_move (by rfl)) rfl rfl ?_
  refine .nil (aq_then ?_)
  refine aw_block ?_
  refine aw_sube [(0, .yld L), (1, .ptr A 0 []), (2, .ptr B 0 []), (6, .I 0)] (.keep rfl (.keep rfl (.keep rfl (.keep rfl .nil)))) ?_
  refine aw_loop (σ := Nat × Int) (fun z => ⟨[(0, .yld L), (1, .ptr A 0 []), (2, .ptr B 0 []), (6, .I z.2)], hp, []⟩) (fun z => apartF a0 a1 z.1 z.2 = some res) (fun z => z.1) (n, (0 : Int)) h ?_
  clear h
  rintro ⟨n_, i⟩ h
  obtain _ | n_ := n_
  · simp only [apartF] at h; cases h
  · simp only [apartF] at h
    show AW C _ _ ⟨[(0, .yld L), (1, .ptr A 0 []), (2, .ptr B 0 []), (6, .I i)], hp, []⟩
    refine aw_rs ?_
    refine .v2 (f_binI (by rfl) rfl (by rfl)) rfl rfl rfl ?_
    refine .nil (aq_then ?_)
    refine aw_seq ?_
    refine aw_cond rfl (fun hc1 => ?_) (fun hc1 => ?_)
    · replace h := ite_t hc1 h
      refine aw_skip ?_
      refine aq_then ?_
      refine aw_seq ?_
      refine aw_block ?_
      refine aw_rs ?_
      refine .v1 (f_move (by rfl)) rfl rfl ?_
      refine .v1 (f_assign (by rfl)) rfl rfl ?_
      refine .nil (aq_then ?_)
      refine aw_rds ?_
      obtain ⟨x, hx, h⟩ := bind_some h
      obtain ⟨y, hy, h⟩ := bind_some h
      obtain ⟨hi, hx⟩ := rd_some hx
      obtain ⟨_, hy⟩ := rd_some hy
      refine .v1 (f_move (by rfl)) rfl rfl ?_
      refine .v (f_indexO (by rfl) ar47 (o := A) (off := 0) (p := []) (c := .d (eA46 a0)) rfl hi (rd_map _ hx)) rfl (.c rfl (.c rfl .nil)) (.cons hA .nil) ?_
      refine .v (f_load (n := 0) (o := A) (off := (0 + i.toNat * 1)) (p := [i.toNat]) (c := .d (eA46 a0)) (z := .d (.val (.int .u8 x))) (by rfl) (at_map _ hx (by simp)) ty5 (by rfl)) rfl (.c rfl .nil) (.cons hA .nil) ?_
      refine .v1 (f_move (by rfl)) rfl rfl ?_
      refine .v (f_indexO (by rfl) ar47 (o := B) (off := 0) (p := []) (c := .d (eA46 a1)) rfl hi (rd_map _ hy)) rfl (.c rfl (.c rfl .nil)) (.cons hB .nil) ?_
      refine .v (f_load (n := 0) (o := B) (off := (0 + i.toNat * 1)) (p := [i.toNat]) (c := .d (eA46 a1)) (z := .d (.val (.int .u8 y))) (by rfl) (at_map _ hy (by simp)) ty5 (by rfl)) rfl (.c rfl .nil) (.cons hB .nil) ?_
      refine .v2 (f_binI (r := .int .u8 (bXor .u8 x y)) (by rfl) rfl (by rfl)) rfl rfl rfl ?_
      refine .v1 (f_assign (by rfl)) rfl rfl ?_
      refine .nil (by kernel_rfl) ?_
      refine aw_rs ?_
      refine .v1 (f_move (by rfl)) rfl rfl ?_
      refine .v2 (f_binI (by rfl) rfl (by rfl)) rfl rfl rfl ?_
      refine .v1 (f_move (by rfl)) rfl rfl ?_
      rcases Bool.eq_false_or_eq_true ((bXor .u8 x y) != (0 : Int)) with hc2 | hc2
      · replace h := ite_t hc2 h
        obtain rfl := Option.some.inj h
        refine .g1 (f_move (by rfl)) rfl rfl rfl hc2 rfl ?_
        refine .g1 (f_move (by rfl)) rfl rfl rfl hc2 rfl ?_
        refine .g1 (f_move (by rfl)) rfl rfl rfl hc2 rfl ?_
        refine R.yield (L := L) (r := r) (ns2 := ns2) (envo := envo) (xs := [.I i, .d (.val (.int .u8 (bXor .u8 x y)))]) (wanted_on rfl rfl rfl hc2) (by rfl) rfl hL hst (by rw [hps]; rfl) rfl (by rfl) (.c rfl (.c rfl .nil)) hpin hlt2 ?_
        intro C2 Y A' h1 h2 h3 h4 h5 h6
        refine hsome _ _ rfl C2 Y A' h1 h2 h3 (fun s2 k1 k2 k3 => h5 _ _ s2 rfl k1 k2 ?_) h6
        refine .g1 (f_not (by rfl)) rfl rfl rfl hc2 rfl ?_
        refine .v2 (f_pick_true (by rfl) hc2) rfl rfl rfl ?_
        refine .nil (aq_then ?_)
        refine aw_cond rfl (fun _ => ?_) (fun hx => absurd hx (by simp))
        refine aw_exit ?_
        refine aq_block_exit_ne rfl ?_
        refine aq_then_exit ?_
        refine aq_then_exit ?_
        refine aq_block_exit ?_
        refine aq_scope (by intro l; simp) ?_
        exact k3 _
      · replace h := ite_f hc2 h
        refine .q rfl rfl rfl hc2 rfl ?_
        refine .q rfl rfl rfl hc2 rfl ?_
        refine .q rfl rfl rfl hc2 rfl ?_
        refine .q rfl rfl rfl hc2 rfl ?_
        refine .q rfl rfl rfl hc2 rfl ?_
        refine .v2 (f_pick_false (by rfl) hc2) rfl rfl rfl ?_
        refine .nil (aq_then ?_)
        refine aw_cond rfl (fun hx => absurd hx (by simp)) (fun _ => ?_)
        refine aw_skip ?_
        refine aq_block ?_
        refine aq_then ?_
        refine aw_r ?_
        refine .v2 (f_binI (by rfl) rfl (by rfl)) rfl rfl rfl ?_
        refine .v1 (f_move (by rfl)) rfl rfl ?_
        refine .nil ?_
        refine aq_sube [(0, .yld L), (1, .ptr A 0 []), (2, .ptr B 0 []), (6, .I (IntKind.i64.wrap (i + 1)))] (.keep rfl (.keep rfl (.keep rfl (.keep rfl .nil)))) ?_
        exact aq_loop (n_, IntKind.i64.wrap (i + 1)) h (Nat.lt_succ_self _)
    · replace h := ite_f hc1 h
      obtain rfl := Option.some.inj h
      refine aw_exit ?_
      refine aq_then_exit ?_
      refine aq_then_exit ?_
      refine aq_block_exit ?_
      refine aq_scope (by intro l; simp) ?_
      exact hnone rfl _
def F66_path_Ahead (n : Nat) (a0 a1 : List Int) : Option Bool :=
  (apartF a0 a1 n 0).bind fun (q : Option (Int × Int)) => match q with
    | none => some false
    | some (i, x) => (rd a0 i).bind fun (y : Int) => (rd a1 i).bind fun (z : Int) => some (decide (y < z))
theorem F66_path_Ahead_ok {n : Nat} {a0 a1 : List Int} {r : Bool} (h : F66_path_Ahead n a0 a1 = some r) :
    ACall Tryz.prog GS 66 [.d (eA46 a0), .d (eA46 a1)] [] (fun r' hp' => r' = .B r ∧ hp' = []) := by
  refine acall_of_body mixed Tryz.func66 rfl (by rfl) ?_
  intro C hro hgl hb0
  unfold F66_path_Ahead at h
  obtain ⟨q, hq, h⟩ := bind_some h
  refine aw_rs ?_
  refine .n (f_box 2 (by rfl) (by rfl)) rfl (.c rfl .nil) rfl ?_
  refine .n (f_box 3 (by rfl) (by rfl)) rfl (.c rfl .nil) rfl ?_
  refine .n (f_alloc 4 (by rfl) zr4) rfl .nil rfl ?_
  refine .nil (aq_then ?_)
  refine aw_seq ?_
  refine aw_rs ?_
  refine .v (f_load (n := 0) (o := 2) (off := 0) (p := []) (c := .d (eA46 a0)) (z := .d (eA46 a0)) (by rfl) rfl ty47 (by rfl)) rfl (.c rfl .nil) (.cons rfl .nil) ?_
  refine .v (f_load (n := 0) (o := 3) (off := 0) (p := []) (c := .d (eA46 a1)) (z := .d (eA46 a1)) (by rfl) rfl ty47 (by rfl)) rfl (.c rfl .nil) (.cons rfl .nil) ?_
  refine .w (f_call (hn := [103, 102]) (hw := [(103, .av (.d (eA46 a1))), (102, .av (.d (eA46 a0)))]) (r := .fn (.func 140) [] [.ptr 102 0 [], .ptr 103 0 []]) (by rfl) en107 rfl (by rfl) (acallF_closed 100 (by rfl) (acall_globs Fap_ok))) rfl (.c rfl (.c rfl .nil)) .nil (.cons rfl (.cons rfl .nil)) ?_
  refine .nil (aq_then ?_)
  refine aw_block ?_
  obtain ⟨c1, hc1, hwk⟩ := apart_walk hq
  refine aw_range 200 201 hro rfl Tryz.func140 hc1 rfl en140 rfl rfl rfl (by rfl) ?_
  intro C1 lp E hro1 hgl1 hb1 hst hpd hps has hbd hpin hend
  refine hwk C1 lp E _ 102 103 201 _ _ hst rfl rfl rfl (by rw [hps]; rfl) (by rw [hps]; rfl) hpin ?_ ?_
  · intro hn env
    subst hn
    obtain rfl := Option.some.inj h
    refine hend .normal _ lp.state lp.pending (.inr rfl) rfl rfl (by rw [hst]; simp) ?_
    rw [hpd]
    refine aq_block ?_
    refine aq_then ?_
    refine aw_rs ?_
    refine .s (f_store (n := 0) (o := 4) (off := 0) (p := []) (c := .B false) (old := .B false) (z := .B false) (c' := .B false) rfl rfl (by rfl) ty4 (by rfl)) rfl (.c rfl (.c rfl .nil)) (.cons rfl .nil) ?_
    refine .nil (aq_then ?_)
    refine aw_ret ?_
    refine aq_marks (.inl rfl) ⟨rfl, trivial⟩ ?_
    exact aq_finp hb0 rfl (.cell rfl rfl ty4 (by rfl) .nil) (by rfl) rfl ⟨rfl, rfl⟩
  · intro i x hix C2 Y A' h1 h2 h3 hret hbegin
    subst hix
    refine aw_code has ?_
    rw [hps]
    refine aw_r ?_
    refine .v1 (f_assign (by rfl)) rfl rfl ?_
    refine .nil (hbegin _ rfl ?_)
    refine aw_code hbd ?_
    refine aw_block ?_
    refine aw_seq ?_
    obtain ⟨y, hy, h⟩ := bind_some h
    obtain ⟨z, hz, h⟩ := bind_some h
    obtain ⟨hi, hy⟩ := rd_some hy
    obtain ⟨_, hz⟩ := rd_some hz
    obtain rfl := Option.some.inj h
    refine aw_rd ?_
    refine .v1 (f_move (by rfl)) rfl rfl ?_
    refine .v (f_indexO (by rfl) ar47 (o := 2) (off := 0) (p := []) (c := .d (eA46 a0)) rfl hi (rd_map _ hy)) rfl (.c rfl (.c rfl .nil)) (.cons rfl .nil) ?_
    refine .v (f_load (n := 0) (o := 2) (off := (0 + i.toNat * 1)) (p := [i.toNat]) (c := .d (eA46 a0)) (z := .d (.val (.int .u8 y))) (by rfl) (at_map _ hy (by simp)) ty5 (by rfl)) rfl (.c rfl .nil) (.cons rfl .nil) ?_
    refine .v1 (f_move (by rfl)) rfl rfl ?_
    refine .v (f_indexO (by rfl) ar47 (o := 3) (off := 0) (p := []) (c := .d (eA46 a1)) rfl hi (rd_map _ hz)) rfl (.c rfl (.c rfl .nil)) (.cons rfl .nil) ?_
    refine .v (f_load (n := 0) (o := 3) (off := (0 + i.toNat * 1)) (p := [i.toNat]) (c := .d (eA46 a1)) (z := .d (.val (.int .u8 z))) (by rfl) (at_map _ hz (by simp)) ty5 (by rfl)) rfl (.c rfl .nil) (.cons rfl .nil) ?_
    refine .v2 (f_binI (r := .bool (decide (y < z))) (by rfl) rfl (by rfl)) rfl rfl rfl ?_
    refine .s (f_store (n := 0) (o := 4) (off := 0) (p := []) (c := .B false) (old := .B false) (z := .B (decide (y < z))) (c' := .B (decide (y < z))) rfl rfl (by rfl) ty4 (by rfl)) rfl (.c rfl (.c rfl .nil)) (.cons rfl .nil) ?_
    refine .nil (by kernel_rfl) ?_
    refine aq_then ?_
    refine aw_ret ?_
    refine aq_block_ret ?_
    refine hret _ rfl rfl ?_
    intro env
    refine hend .normal _ .done (some .ret) (.inr rfl) rfl rfl (by simp) ?_
    show AW C .ret _ _
    refine aw_ret ?_
    refine aq_block_ret ?_
    refine aq_then_ret ?_
    refine aq_marks (.inl rfl) ⟨rfl, trivial⟩ ?_
    exact aq_finp hb0 rfl (.cell rfl rfl ty4 (by rfl) .nil) (by rfl) rfl ⟨rfl, rfl⟩
def F163_path_Shared (n : Nat) (a0 a1 : List Int) : Option Int :=
  (apartF a0 a1 n 0).bind fun (q : Option (Int × Int)) => match q with
    | none => some 256
    | some (i, x) => (F172_bits_LeadingZeros8 n x).bind fun (y : Int) => some (IntKind.i64.wrap (IntKind.i64.wrap ((8 : Int) * i) + y))
theorem F163_path_Shared_ok {n : Nat} {a0 a1 : List Int} {r : Int} (h : F163_path_Shared n a0 a1 = some r) :
    ACall Tryz.prog GS 163 [.d (eA46 a0), .d (eA46 a1)] [] (fun r' hp' => r' = .I r ∧ hp' = []) := by
  refine acall_of_body mixed Tryz.func163 rfl (by rfl) ?_
  intro C hro hgl hb0
  unfold F163_path_Shared at h
  obtain ⟨q, hq, h⟩ := bind_some h
  refine aw_rs ?_
  refine .n (f_box 2 (by rfl) (by rfl)) rfl (.c rfl .nil) rfl ?_
  refine .n (f_box 3 (by rfl) (by rfl)) rfl (.c rfl .nil) rfl ?_
  refine .n (f_alloc 4 (by rfl) zr3) rfl .nil rfl ?_
  refine .nil (aq_then ?_)
  refine aw_seq ?_
  refine aw_rs ?_
  refine .v (f_load (n := 0) (o := 2) (off := 0) (p := []) (c := .d (eA46 a0)) (z := .d (eA46 a0)) (by rfl) rfl ty47 (by rfl)) rfl (.c rfl .nil) (.cons rfl .nil) ?_
  refine .v (f_load (n := 0) (o := 3) (off := 0) (p := []) (c := .d (eA46 a1)) (z := .d (eA46 a1)) (by rfl) rfl ty47 (by rfl)) rfl (.c rfl .nil) (.cons rfl .nil) ?_
  refine .w (f_call (hn := [103, 102]) (hw := [(103, .av (.d (eA46 a1))), (102, .av (.d (eA46 a0)))]) (r := .fn (.func 140) [] [.ptr 102 0 [], .ptr 103 0 []]) (by rfl) en107 rfl (by rfl) (acallF_closed 100 (by rfl) (acall_globs Fap_ok))) rfl (.c rfl (.c rfl .nil)) .nil (.cons rfl (.cons rfl .nil)) ?_
  refine .nil (aq_then ?_)
  refine aw_block ?_
  obtain ⟨c1, hc1, hwk⟩ := apart_walk hq
  refine aw_range 200 201 hro rfl Tryz.func140 hc1 rfl en140 rfl rfl rfl (by rfl) ?_
  intro C1 lp E hro1 hgl1 hb1 hst hpd hps has hbd hpin hend
  refine hwk C1 lp E _ 102 103 201 _ _ hst rfl rfl rfl (by rw [hps]; rfl) (by rw [hps]; rfl) hpin ?_ ?_
  · intro hn env
    subst hn
    obtain rfl := Option.some.inj h
    refine hend .normal _ lp.state lp.pending (.inr rfl) rfl rfl (by rw [hst]; simp) ?_
    rw [hpd]
    refine aq_block ?_
    refine aq_then ?_
    refine aw_rs ?_
    refine .s (f_store (n := 0) (o := 4) (off := 0) (p := []) (c := .I 0) (old := .I 0) (z := .I 256) (c' := .I 256) rfl rfl (by rfl) ty3 (by rfl)) rfl (.c rfl (.c rfl .nil)) (.cons rfl .nil) ?_
    refine .nil (aq_then ?_)
    refine aw_ret ?_
    refine aq_marks (.inl rfl) ⟨rfl, trivial⟩ ?_
    exact aq_finp hb0 rfl (.cell rfl rfl ty3 (by rfl) .nil) (by rfl) rfl ⟨rfl, rfl⟩
  · intro i x hix C2 Y A' h1 h2 h3 hret hbegin
    subst hix
    refine aw_code has ?_
    rw [hps]
    refine aw_rs ?_
    refine .v1 (f_assign (by rfl)) rfl rfl ?_
    refine .nil (aq_then ?_)
    refine aw_r ?_
    refine .v1 (f_assign (by rfl)) rfl rfl ?_
    refine .nil (hbegin _ rfl ?_)
    refine aw_code hbd ?_
    refine aw_block ?_
    refine aw_rs ?_
    obtain ⟨y, hy, h⟩ := bind_some h
    obtain rfl := Option.some.inj h
    refine .v1 (f_move (by rfl)) rfl rfl ?_
    refine .v2 (f_binI (by rfl) rfl (by rfl)) rfl rfl rfl ?_
    refine .v1 (f_move (by rfl)) rfl rfl ?_
    refine .v1 (f_callP (h2.trans (hgl1.trans hgl)) (by rfl) en172 rfl (by rfl) (by rfl) (by rfl) (F172_bits_LeadingZeros8_ok hy)) rfl rfl ?_
    refine .v2 (f_binI (by rfl) rfl (by rfl)) rfl rfl rfl ?_
    refine .s (f_store (n := 0) (o := 4) (off := 0) (p := []) (c := .I 0) (old := .I 0) (z := .I (IntKind.i64.wrap (IntKind.i64.wrap ((8 : Int) * i) + y))) (c' := .I (IntKind.i64.wrap (IntKind.i64.wrap ((8 : Int) * i) + y))) rfl rfl (by rfl) ty3 (by rfl)) rfl (.c rfl (.c rfl .nil)) (.cons rfl .nil) ?_
    refine .nil (aq_then ?_)
    refine aw_ret ?_
    refine aq_block_ret ?_
    refine hret _ rfl rfl ?_
    intro env
    refine hend .normal _ .done (some .ret) (.inr rfl) rfl rfl (by simp) ?_
    show AW C .ret _ _
    refine aw_ret ?_
    refine aq_block_ret ?_
    refine aq_then_ret ?_
    refine aq_marks (.inl rfl) ⟨rfl, trivial⟩ ?_
    exact aq_finp hb0 rfl (.cell rfl rfl ty3 (by rfl) .nil) (by rfl) rfl ⟨rfl, rfl⟩
def eachF (t : GTree) : Nat → Int → Option (List GPair)
  | 0, _ => none
  | d + 1, n => if (n == (0 : Int)) = true then some [] else (rd t.Nodes (IntKind.i64.wrap (n - (1 : Int)))).bind fun (x : GNode) =>
      if x.Leaf = true then (F112_Clone d x.Value).bind fun (v : List Int) => some [(⟨x.Key, v⟩ : GPair)]
      else (eachF t d x.Left).bind fun (a : List GPair) => (eachF t d x.Right).bind fun (b : List GPair) => some (a ++ b)
theorem hg_ne {o o' : Nat} {c : HO} {h : Heap} (e : o ≠ o') : Heap.get ((o, c) :: h) o' = h.get o' := by rw [heap_get_cons, if_neg e]
theorem hg_eq {o : Nat} {c : HO} {h : Heap} : Heap.get ((o, c) :: h) o = some c := by rw [heap_get_cons, if_pos rfl]
def Keep (c : HO) : Prop := (∀ a b l s, c ≠ .av (.slc a b l s)) ∧ ∀ n xs, c ≠ .av (.d (.arr 33 n xs))
theorem keep_raw (ob : Obj) : Keep (.raw ob) := ⟨fun _ _ _ _ e => (by cases e), fun _ _ e => (by cases e)⟩
theorem keep_val (v : Value) : Keep (.av (.d (.val v))) := ⟨fun _ _ _ _ e => (by cases e), fun _ _ e => (by cases e)⟩
theorem keep_st (xs : List D) : Keep (.av (.d (.st xs))) := ⟨fun _ _ _ _ e => (by cases e), fun _ _ e => (by cases e)⟩
theorem keep_yld (o : Nat) : Keep (.av (.yld o)) := ⟨fun _ _ _ _ e => (by cases e), fun _ _ e => (by cases e)⟩
theorem keep_avst (xs : List AV) : Keep (.av (.st xs)) := ⟨fun _ _ _ _ e => (by cases e), fun _ _ e => (by cases e)⟩
def Kp (h h' : Heap) : Prop := ∀ o c, h.get o = some c → Keep c → h'.get o = some c
theorem Kp.refl (h : Heap) : Kp h h := fun _ _ h _ => h
theorem Kp.trans {h h' h'' : Heap} (a : Kp h h') (b : Kp h' h'') : Kp h h'' := fun o c hc hk => b o c (a o c hc hk) hk
theorem Kp.fresh {h : Heap} {o : Nat} {c : HO} (ho : h.get o = none) : Kp h ((o, c) :: h) := fun o' c' hc hk => by
  rw [heap_get_cons]
  split
  · next e => subst e; rw [ho] at hc; cases hc
  · exact hc
structure Prot (I : List GPair → Heap → Prop) (Ls : List Nat) : Prop where
  stab : ∀ acc h o c, I acc h → o ∉ Ls → (h.get o = none ∨ ∃ c0, h.get o = some c0 ∧ Keep c0) → I acc ((o, c) :: h)
  pres : ∀ acc h, I acc h → ∀ o ∈ Ls, h.get o ≠ none
def Yields {ns : Nat} (C : Ctx Tryz.prog ns) (L : Nat) (I : List GPair → Heap → Prop) : Prop :=
  ∀ (ns' : Nat) (C' : Ctx Tryz.prog ns'), C'.globs = C.globs → (∀ n e t, Pin C n e t → Pin C' n e t) → ∀ (ops : Array Oper) (d ty : Nat) (ps : String) (af : Array Edge) (tt : Nat) (as_ : Array Operand) (ats : Array TypeId) (e : Env) (h : Heap) (ds : List Nat) (os : List Oper)
    (Q : Exit → Act → World → Prop) (acc : List GPair) (x : GPair), Nat.blt d C'.n = true → e.get tt = some (.yld L) → I acc h → as_.toList.length = 1 → EnvHas C' e (as_.toList.zip [.d (eGPair x)]) → acc.length < 1073741824 →
    (∀ h', I (acc ++ [x]) h' → Kp h h' → R C' ops os ⟨(d, .d (.val (.bool true))) :: e, h', ds⟩ Q) → R C' ops (⟨some d, .call ⟨.value (.tmp tt), as_, ats⟩, ty, ps, af, none⟩ :: os) ⟨e, h, ds⟩ Q
theorem Yields.up {ns ns' : Nat} {C : Ctx Tryz.prog ns} {C' : Ctx Tryz.prog ns'} {L : Nat} {I : List GPair → Heap → Prop} (h : Yields C L I) (hg : C'.globs = C.globs) (hp : ∀ n e t, Pin C n e t → Pin C' n e t) : Yields C' L I :=
  fun ns'' C'' hg' hp' => h ns'' C'' (hg'.trans hg) fun n e t k => hp' n e t (hp n e t k)
def Ends {ns : Nat} (C : Ctx Tryz.prog ns) (E : Exit → Act → World → Prop) (I : List GPair → Heap → Prop) (acc : List GPair) (h0 : Heap) : Prop :=
  ∀ ex h' env ds, (ex = .ret ∨ ex = .normal) → marksOk h' ds → I acc (marksDead h' ds) → Kp h0 (marksDead h' ds) → AQ C E ex ⟨env, h', ds⟩
def Hd (r : Loop) (acc : List GPair) (h : Heap) : Prop := ∃ oS, oS ≠ 2 ∧ oS ≠ 1074 ∧ h.get 2 = some (.av (.slc oS 0 acc.length 33)) ∧ h.get oS = some (.av (.d (.arr 33 acc.length (acc.map eGPair)))) ∧ h.get 1074 = some (.raw (.loop r))
theorem hd_prot (r : Loop) : Prot (Hd r) [1074] := by
  refine ⟨fun acc h o c hI ho hf => ?_, fun acc h hI o ho => ?_⟩
  · obtain ⟨oS, n1, n2, h1, h2, h3⟩ := hI
    have ho : o ≠ 1074 := by simpa using ho
    have e2 : o ≠ 2 := fun e => by
      subst e
      rcases hf with hf | ⟨ob, hf, hk⟩
      · rw [h1] at hf; cases hf
      · rw [h1] at hf; cases hf; exact hk.1 _ _ _ _ rfl
    have eS : o ≠ oS := fun e => by
      subst e
      rcases hf with hf | ⟨ob, hf, hk⟩
      · rw [h2] at hf; cases hf
      · rw [h2] at hf; cases hf; exact hk.2 _ _ rfl
    exact ⟨oS, n1, n2, by rw [hg_ne e2]; exact h1, by rw [hg_ne eS]; exact h2, by rw [hg_ne ho]; exact h3⟩
  · obtain ⟨oS, n1, n2, h1, h2, h3⟩ := hI
    simp only [List.mem_singleton] at ho; subst ho
    rw [h3]; simp
theorem nbeq {a b : Nat} (h : a ≠ b) : Nat.beq a b = false := by
  cases hb : Nat.beq a b with
  | false => rfl
  | true => exact absurd (Nat.eq_of_beq_eq_true hb) h
theorem marks_get : ∀ (ds : List Nat) (h : Heap) (o : Nat), o ∉ ds → (marksDead h ds).get o = h.get o
  | [], _, _, _ => rfl
  | D :: ds, h, o, ho => by
    simp only [List.mem_cons, not_or] at ho
    simp only [marksDead]
    rw [marks_get ds _ o ho.2, hg_ne (Ne.symm ho.1)]
theorem marks_ok : ∀ (ds : List Nat) (h : Heap), (∀ D ∈ ds, h.get D = some (.raw (.deferred (some [])))) → ds.Nodup → marksOk h ds
  | [], _, _, _ => trivial
  | D :: ds, h, hd, hn => by
    obtain ⟨n1, n2⟩ := List.nodup_cons.1 hn
    refine ⟨hd D (by simp), marks_ok ds _ (fun D' hD' => ?_) n2⟩
    have e' : D ≠ D' := fun e => n1 (by rw [e]; exact hD')
    rw [hg_ne e']
    exact hd D' (by simp [hD'])
theorem marks_prot {I : List GPair → Heap → Prop} {Ls : List Nat} (hPr : Prot I Ls) {acc : List GPair} : ∀ (ds : List Nat) (h : Heap), I acc h → (∀ D ∈ ds, D ∉ Ls ∧ h.get D = some (.raw (.deferred (some [])))) → ds.Nodup → I acc (marksDead h ds)
  | [], _, hI, _, _ => hI
  | D :: ds, h, hI, hd, hn => by
    obtain ⟨n1, n2⟩ := List.nodup_cons.1 hn
    obtain ⟨d1, d2⟩ := hd D (by simp)
    refine marks_prot hPr ds _ (hPr.stab _ _ D .dead hI d1 (.inr ⟨_, d2, keep_raw _⟩)) (fun D' hD' => ?_) n2
    have e' : D ≠ D' := fun e => n1 (by rw [e]; exact hD')
    rw [hg_ne e']
    exact hd D' (by simp [hD'])
theorem ty223' : tyB Tryz.prog 223 = some (false, 1) := by kernel_rfl
theorem keep_arr1 (n : Nat) (xs : List D) : Keep (.av (.d (.arr 1 n xs))) := ⟨fun _ _ _ _ e => (by cases e), fun _ _ e => (by cases e)⟩
theorem uda201' : Tryz.prog.underlying 201 = some (.array 2 3) := by kernel_rfl
theorem ends_nil {ns : Nat} {C : Ctx Tryz.prog ns} {E : Exit → Act → World → Prop} {I : List GPair → Heap → Prop} {acc : List GPair} {h0 h' : Heap} (hE : Ends C E I acc h0) {ex : Exit} (hx : ex = .ret ∨ ex = .normal) (env : Env) (hI : I acc h') (hK : Kp h0 h') : AQ C E ex ⟨env, h', []⟩ := hE ex h' env [] hx trivial hI hK
theorem each_walk (t : GTree) : ∃ c1, Tryz.f161.body = some c1 ∧ ∀ (d : Nat) (n : Int) (l : List GPair), eachF t d n = some l → ∀ (C : Ctx Tryz.prog Tryz.f161.ntmps) (E : Exit → Act → World → Prop) (h : Heap) (L Bt Bn : Nat) (I : List GPair → Heap → Prop) (Ls : List Nat) (acc : List GPair),
    C.round = none → C.globs = GS → (∀ o, h.get o = none → C.base o = none) → Prot I Ls → Yields C L I → h.get Bt = some (.av (.d (eGTree t))) → h.get Bn = some (.av (.d (.val (.int .i64 n)))) → I acc h → acc.length + l.length ≤ 1073741824 → Ends C E I (acc ++ l) h →
    AW C c1 E ⟨argEnv (.yld L :: [.ptr Bn 0 [], .ptr Bt 0 []]) 0, h, []⟩ := by
  refine ⟨_, rfl, ?_⟩
  intro d
  induction d with
  | zero => intro n l h; simp only [eachF] at h; cases h
  | succ d ih =>
  intro n l hl C E h L Bt Bn I Ls acc hro hgl hb0 hPr hY hBt hBn hI hlen hE
  simp only [eachF] at hl
  obtain ⟨N, hN⟩ := heap_fresh h
  have hlt : ∀ o c, h.get o = some c → o < N := fun o c hc => by
    cases Nat.lt_or_ge o N with
    | inl h => exact h
    | inr h => rw [hN o h] at hc; cases hc
  have hBtN := hlt _ _ hBt
  have hBnN := hlt _ _ hBn
  have hLsN : ∀ o, N ≤ o → o ∉ Ls := fun o ho hm => hPr.pres acc h hI o hm (hN o ho)
  refine aw_rs ?_
  refine .n (f_box N (by rfl) (by rfl)) rfl (.c rfl .nil) (hN N (Nat.le_refl _)) ?_
  have hI1 : I acc ((N, .av (.yld L)) :: h) := hPr.stab _ _ _ _ hI (hLsN N (Nat.le_refl _)) (.inl (hN N (Nat.le_refl _)))
  have hK1 : Kp h ((N, .av (.yld L)) :: h) := Kp.fresh (hN N (Nat.le_refl _))
  refine .nil (aq_then ?_)
  refine aw_seq ?_
  refine aw_rs ?_
  refine .v (f_load (n := 0) (o := Bn) (off := 0) (p := []) (c := .d (.val (.int .i64 n))) (z := .d (.val (.int .i64 n))) (by rfl) rfl ty3 (by rfl)) rfl (.c rfl .nil) (.cons (by rw [hg_ne (by omega)]; exact hBn) .nil) ?_
  refine .v (f_binI (by rfl) rfl (by rfl)) rfl (.c rfl (.c rfl .nil)) .nil ?_
  refine .nil (aq_then ?_)
  refine aw_cond rfl (fun hc1 => ?_) (fun hc1 => ?_)
  · replace hl := ite_t hc1 hl
    obtain rfl := Option.some.inj hl
    refine aw_ret ?_
    refine aq_then_ret ?_
    exact ends_nil hE (.inl rfl) _ (by rw [List.append_nil]; exact hI1) hK1
  replace hl := ite_f hc1 hl
  refine aw_skip ?_
  refine aq_then ?_
  refine aw_rs ?_
  refine .v (f_fieldAddr (n := 0) (by rfl) fl27_0 (by decide)) rfl (.c rfl .nil) .nil ?_
  refine .v (f_load (n := 0) (o := Bt) (off := (0 + 0)) (p := [0]) (c := .d (eGTree t)) (z := .d (eL25 t.Nodes)) (by rfl) rfl ty25 (by rfl)) rfl (.c rfl .nil) (.cons (by rw [hg_ne (by omega)]; exact hBt) .nil) ?_
  refine .v (f_load (n := 0) (o := Bn) (off := 0) (p := []) (c := .d (.val (.int .i64 n))) (z := .d (.val (.int .i64 n))) (by rfl) rfl ty3 (by rfl)) rfl (.c rfl .nil) (.cons (by rw [hg_ne (by omega)]; exact hBn) .nil) ?_
  refine .v (f_binI (by rfl) rfl (by rfl)) rfl (.c rfl (.c rfl .nil)) .nil ?_
  obtain ⟨x, hx, hl⟩ := bind_some hl
  obtain ⟨hx0, hx⟩ := rd_some hx
  refine .v (f_indexS (by rfl) sl25 hx0 (rd_map _ hx)) rfl (.c rfl (.c rfl .nil)) .nil ?_
  refine .v (f_loadR (z := (eGNode x)) (by rfl) ty72) rfl (.c rfl .nil) .nil ?_
  refine .n (f_alloc (N + 1) (by rfl) zrv72) rfl .nil (by rw [hg_ne (by omega)]; exact hN _ (by omega)) ?_
  refine .s (f_store (n := 0) (o := N + 1) (off := 0) (p := []) (c := .st [.d (.val (.bool false)), .d (eA46 (List.replicate 32 (0 : Int))), .d (.val (.slice none 0 0)), .d (.val (.int .i64 (0 : Int))), .d (.val (.int .i64 (0 : Int)))]) (old := .st [.d (.val (.bool false)), .d (eA46 (List.replicate 32 (0 : Int))), .d (.val (.slice none 0 0)), .d (.val (.int .i64 (0 : Int))), .d (.val (.int .i64 (0 : Int)))]) (z := .d (eGNode x)) (c' := .d (eGNode x)) rfl rfl (by rfl) ty72 (by rfl)) rfl (.c rfl (.c rfl .nil)) (.cons hg_eq .nil) ?_
  refine .nil (aq_then ?_)
  obtain ⟨h2, hh2⟩ : ∃ h2 : Heap, h2 = (N + 1, .av (.d (eGNode x))) :: (N + 1, .av (.st [.d (.val (.bool false)), .d (eA46 (List.replicate 32 (0 : Int))), .d (.val (.slice none 0 0)), .d (.val (.int .i64 (0 : Int))), .d (.val (.int .i64 (0 : Int)))])) :: (N, .av (.yld L)) :: h := ⟨_, rfl⟩
  have g2 : ∀ o, N + 2 ≤ o → h2.get o = none := fun o ho => by rw [hh2, hg_ne (by omega), hg_ne (by omega), hg_ne (by omega)]; exact hN o (by omega)
  have g2x : h2.get (N + 1) = some (.av (.d (eGNode x))) := by rw [hh2, hg_eq]
  have g2y : h2.get N = some (.av (.yld L)) := by rw [hh2, hg_ne (by omega), hg_ne (by omega), hg_eq]
  have g2t : h2.get Bt = some (.av (.d (eGTree t))) := by rw [hh2, hg_ne (by omega), hg_ne (by omega), hg_ne (by omega)]; exact hBt
  have hI2 : I acc h2 := by
    have a1 := hPr.stab _ _ (N + 1) (.av (.st [.d (.val (.bool false)), .d (eA46 (List.replicate 32 (0 : Int))), .d (.val (.slice none 0 0)), .d (.val (.int .i64 (0 : Int))), .d (.val (.int .i64 (0 : Int)))])) hI1 (hLsN _ (by omega)) (.inl (by rw [hg_ne (by omega)]; exact hN _ (by omega)))
    rw [hh2]
    exact hPr.stab _ _ _ _ a1 (hLsN _ (by omega)) (.inr ⟨_, hg_eq, keep_avst _⟩)
  have hK2 : Kp h h2 := fun o c hc hk => by
    have := hlt _ _ hc
    rw [hh2, hg_ne (by omega), hg_ne (by omega), hg_ne (by omega)]; exact hc
  rw [← hh2]
  refine aw_seq ?_
  refine aw_rs ?_
  refine .v (f_fieldAddr (n := 0) (by rfl) fl72_0 (by decide)) rfl (.c rfl .nil) .nil ?_
  refine .v (f_load (n := 0) (o := N + 1) (off := (0 + 0)) (p := [0]) (c := .d (eGNode x)) (z := .d (.val (.bool x.Leaf))) (by rfl) rfl ty4 (by rfl)) rfl (.c rfl .nil) (.cons g2x .nil) ?_
  refine .nil (aq_then ?_)
  refine aw_cond rfl (fun hc2 => ?_) (fun hc2 => ?_)
  · replace hl := ite_t hc2 hl
    obtain ⟨v, hv, hl⟩ := bind_some hl
    obtain rfl := Option.some.inj hl
    refine aw_seq ?_
    refine aw_rdl 7 rfl (by kernel_rfl) (by kernel_rfl) ?_
    refine .v (f_load (n := 0) (o := N) (off := 0) (p := []) (c := .yld L) (z := .yld L) (by rfl) rfl ty223' (by rfl)) rfl (.c rfl .nil) (.cons g2y .nil) ?_
    refine .v (f_fieldAddr (n := 1) (by rfl) fl72_1 (by decide)) rfl (.c rfl .nil) .nil ?_
    refine .v (f_load (n := 0) (o := N + 1) (off := (0 + 1)) (p := [1]) (c := .d (eGNode x)) (z := .d (eA46 x.Key)) (by rfl) rfl ty47 (by rfl)) rfl (.c rfl .nil) (.cons g2x .nil) ?_
    refine .v (f_fieldAddr (n := 33) (by rfl) fl72_2 (by decide)) rfl (.c rfl .nil) .nil ?_
    refine .v (f_load (n := 0) (o := N + 1) (off := (0 + 33)) (p := [2]) (c := .d (eGNode x)) (z := .d (eL70 x.Value)) (by rfl) rfl ty70 (by rfl)) rfl (.c rfl .nil) (.cons g2x .nil) ?_
    refine .w (f_call (xs := [.d (eL70 x.Value)]) (hn := [N + 2]) (hw := [(N + 2, .av (.d (.arr 1 v.length (v.map eI_u8))))]) (r := .slc (N + 2) 0 v.length 1) (by rfl) en112 rfl (by rfl) (by rw [hgl]; exact acallF_closed (N + 2) (by rfl) (F112_Clone_ok hv))) rfl (.c rfl .nil) .nil (.cons (g2 _ (Nat.le_refl _)) .nil) ?_
    refine .v (f_build (xs := [(0, .d (eA46 x.Key)), (1, .slc (N + 2) 0 v.length 1)]) (z' := .st [.d (eA46 x.Key), .slc (N + 2) 0 v.length 1]) (by rfl) zrv170 ag170 rfl (by rfl) ⟨_, _, _, rfl, pl170_0, rfl, rfl, ⟨_, _, _, rfl, pl170_1, rfl, rfl, trivial⟩⟩ (by rfl) (by rfl)) rfl (.c rfl (.c rfl .nil)) .nil ?_
    refine .nil ?_ ?_
    · have b1 : Nat.beq (N + 2) N = false := nbeq (by omega)
      have b2 : Nat.beq (N + 2) (N + 1) = false := nbeq (by omega)
      simp only [rowsOk, rowOk, meets, slotsOf, objsOf, List.reverse_cons, List.reverse_nil, List.nil_append, List.cons_append, List.append_nil, List.map_cons, List.map_nil, List.any_cons, List.any_nil, Option.map_some, Option.map_none, Option.toList_some, Option.toList_none, b1, b2]
      show (_ : Bool) = true
      kernel_rfl
    refine R.freeze [(N + 2, .arr 1 v.length (v.map eI_u8))] [(18, .yld L), (24, .d (eGPair ⟨x.Key, v⟩))] (.cons hg_eq .nil) (.keep rfl (.cons rfl (.st (.cons (.same _) (.cons (.whole (.head _)) .nil))) .nil)) ?_
    have hI3 : I acc (deads [(N + 2, .arr 1 v.length (v.map eI_u8))] ++ ([(N + 2, .av (.d (.arr 1 v.length (v.map eI_u8))))] ++ h2)) := by
      simp only [deads, List.map_cons, List.map_nil, List.cons_append, List.nil_append]
      exact hPr.stab _ _ _ _ (hPr.stab _ _ _ _ hI2 (hLsN _ (by omega)) (.inl (g2 _ (Nat.le_refl _)))) (hLsN _ (by omega)) (.inr ⟨_, hg_eq, keep_arr1 _ _⟩)
    have hK3 : Kp h (deads [(N + 2, .arr 1 v.length (v.map eI_u8))] ++ ([(N + 2, .av (.d (.arr 1 v.length (v.map eI_u8))))] ++ h2)) := fun o c hc hk => by
      have := hlt _ _ hc
      simp only [deads, List.map_cons, List.map_nil, List.cons_append, List.nil_append]
      rw [hg_ne (by omega), hg_ne (by omega)]; exact hK2 o c hc hk
    refine hY _ C rfl (fun _ _ _ k => k) _ _ _ _ _ _ _ _ _ _ _ _ _ acc ⟨x.Key, v⟩ (by rfl) rfl hI3 rfl (.c rfl .nil) (by simp at hlen; omega) (fun h' hI' hK' => ?_)
    refine .nil (aq_then ?_)
    refine aw_ret ?_
    refine aq_then_ret ?_
    exact ends_nil hE (.inl rfl) _ hI' (hK3.trans hK')
  replace hl := ite_f hc2 hl
  obtain ⟨a, ha, hl⟩ := bind_some hl
  obtain ⟨b, hbb, hl⟩ := bind_some hl
  obtain rfl := Option.some.inj hl
  refine aw_skip ?_
  refine aq_then ?_
  refine aw_rs ?_
  refine .v (f_load (n := 0) (o := N + 1) (off := 0) (p := []) (c := .d (eGNode x)) (z := .d (eGNode x)) (by rfl) rfl ty72 (by rfl)) rfl (.c rfl .nil) (.cons g2x .nil) ?_
  refine .v (f_callP hgl (by rfl) en145 rfl (by rfl) (by rfl) (by rfl) (F145_tree_roads_ok (n := 0) (r := [x.Left, x.Right]) rfl)) rfl (.c rfl .nil) .nil ?_
  refine .mv rfl (by rfl) ?_
  refine .nil (aq_then ?_)
  refine aw_block ?_
  let pre : Nat → List GPair := fun k => match k with | 0 => acc | 1 => acc ++ a | _ => acc ++ (a ++ b)
  let to : Nat → Int := fun k => match k with | 0 => x.Left | _ => x.Right
  let seg : Nat → List GPair := fun k => match k with | 0 => a | _ => b
  have hto : ∀ k, k < 2 → ([x.Left, x.Right] : List Int)[k]? = some (to k) := fun k hk => by
    have : k = 0 ∨ k = 1 := by omega
    rcases this with rfl | rfl <;> rfl
  have hseg : ∀ k, k < 2 → eachF t d (to k) = some (seg k) := fun k hk => by
    have : k = 0 ∨ k = 1 := by omega
    rcases this with rfl | rfl
    · exact ha
    · exact hbb
  have hpre : ∀ k, k < 2 → pre k ++ seg k = pre (k + 1) := fun k hk => by
    have : k = 0 ∨ k = 1 := by omega
    rcases this with rfl | rfl
    · rfl
    · simp [pre, seg]
  have hpl : ∀ k, (pre k).length ≤ 1073741824 := fun k => by
    simp only [List.length_append] at hlen
    match k with
    | 0 => simp only [pre]; omega
    | 1 => simp only [pre, List.length_append]; omega
    | n + 2 => simp only [pre, List.length_append]; omega
  refine aw_sube [(28, .d (.val (.int .i64 0))), (27, .d (eA201 [x.Left, x.Right])), (3, .ptr N 0 []), (2, .ptr Bt 0 [])] (.keep rfl (.keep rfl (.keep rfl (.keep rfl .nil)))) ?_
  refine aw_loop (σ := Int × Heap × List Nat) (fun z => ⟨[(28, .d (.val (.int .i64 z.1))), (27, .d (eA201 [x.Left, x.Right])), (3, .ptr N 0 []), (2, .ptr Bt 0 [])], z.2.1, z.2.2⟩)
    (fun z => ∃ k : Nat, z.1 = (k : Int) ∧ k ≤ 2 ∧ I (pre k) z.2.1 ∧ Kp h2 z.2.1 ∧ (∀ D ∈ z.2.2, N + 2 ≤ D ∧ z.2.1.get D = some (.raw (.deferred (some [])))) ∧ z.2.2.Nodup) (fun z => (2 - z.1).toNat) ((0 : Int), h2, []) ⟨0, rfl, by omega, hI2, Kp.refl _, by simp, by simp⟩ ?_
  rintro ⟨i, hh, ds⟩ ⟨k, hik, hk2, hIk, hKk, hds, hnd⟩
  simp only at hik hIk hKk hds hnd
  subst hik
  show AW C _ _ ⟨[(28, .d (.val (.int .i64 (k : Int)))), (27, .d (eA201 [x.Left, x.Right])), (3, .ptr N 0 []), (2, .ptr Bt 0 [])], hh, ds⟩
  refine aw_rs ?_
  refine .v (f_binI (by rfl) rfl (by rfl)) rfl (.c rfl (.c rfl .nil)) .nil ?_
  refine .nil (aq_then ?_)
  refine aw_seq ?_
  refine aw_cond rfl (fun hc3 => ?_) (fun hc3 => ?_)
  · have hk : k < 2 := by have := of_decide_eq_true hc3; omega
    refine aw_skip ?_
    refine aq_then ?_
    refine aw_seq ?_
    refine aw_block ?_
    refine aw_rs ?_
    refine .v (f_indexV (z := (.val (.int .i64 (to k)))) (by rfl) uda201' ty3 (by omega) (rd_map eI_i64 (by rw [Int.toNat_natCast]; exact hto k hk))) rfl (.c rfl (.c rfl .nil)) .nil ?_
    refine .as rfl (by rfl) ?_
    refine .nil (aq_then ?_)
    refine aw_rs ?_
    obtain ⟨M0, hM0⟩ := heap_fresh hh
    obtain ⟨M, hM⟩ : ∃ M, M = max M0 (N + 2) := ⟨_, rfl⟩
    have gM : ∀ o, M ≤ o → hh.get o = none := fun o ho => hM0 o (by omega)
    have ltM : ∀ o c, hh.get o = some c → o < M := fun o c hc => by
      cases Nat.lt_or_ge o M with
      | inl h => exact h
      | inr h => rw [gM o h] at hc; cases hc
    have gt := hKk _ _ g2t (keep_st _)
    have gy := hKk _ _ g2y (keep_yld _)
    have hLsM : ∀ o, M ≤ o → o ∉ Ls := fun o ho hm => hPr.pres _ hh hIk o hm (gM o ho)
    refine .v (f_load (n := 0) (o := Bt) (off := 0) (p := []) (c := .d (eGTree t)) (z := .d (eGTree t)) (by rfl) rfl ty27 (by rfl)) rfl (.c rfl .nil) (.cons gt .nil) ?_
    refine .mv rfl (by rfl) ?_
    refine .w (f_call (xs := [.d (eGTree t), .d (.val (.int .i64 (to k)))]) (hn := [M + 3, M + 2]) (hw := [(M + 3, .av (.d (.val (.int .i64 (to k))))), (M + 2, .av (.d (eGTree t)))]) (r := .fn (.func 161) [] [.ptr (M + 3) 0 [], .ptr (M + 2) 0 []]) (by rfl) en142 rfl (by rfl) (by rw [hgl]; exact acallF_closed M (by rfl) (F142_tree_each_ok (n := 0) (r := (to k, t)) rfl))) rfl (.c rfl (.c rfl .nil)) .nil (.cons (gM _ (by omega)) (.cons (gM _ (by omega)) .nil)) ?_
    refine .nil (aq_then ?_)
    refine aw_block ?_
    simp only [List.cons_append, List.nil_append]
    refine aw_range2 (M + 4) (M + 5) hro rfl Tryz.func161 rfl rfl en161 (by rw [hg_ne (by omega), hg_ne (by omega)]; exact gM _ (by omega)) (by rw [hg_ne (by omega), hg_ne (by omega)]; exact gM _ (by omega)) (nbeq (by omega)) (by rfl) ?_
    intro C1 lp E1 hro1 hg1 hp1 hb1 hst hpd hps has hbd hpin hend
    obtain ⟨h0, hh0⟩ : ∃ h0 : Heap, h0 = (M + 5, HO.raw (.loop lp)) :: (M + 4, .raw (.deferred (some []))) :: (M + 3, .av (.d (.val (.int .i64 (to k))))) :: (M + 2, .av (.d (eGTree t))) :: hh := ⟨_, rfl⟩
    have g0 : ∀ o, o < M → h0.get o = hh.get o := fun o ho => by rw [hh0, hg_ne (by omega), hg_ne (by omega), hg_ne (by omega), hg_ne (by omega)]
    have hNM := ltM _ _ gy
    have hI0 : I (pre k) h0 := by
      rw [hh0]
      have s1 := hPr.stab _ _ (M + 2) (.av (.d (eGTree t))) hIk (hLsM _ (by omega)) (.inl (gM _ (by omega)))
      have s2 := hPr.stab _ _ (M + 3) (.av (.d (.val (.int .i64 (to k))))) s1 (hLsM _ (by omega)) (.inl (by rw [hg_ne (by omega)]; exact gM _ (by omega)))
      have s3 := hPr.stab _ _ (M + 4) (.raw (.deferred (some []))) s2 (hLsM _ (by omega)) (.inl (by rw [hg_ne (by omega), hg_ne (by omega)]; exact gM _ (by omega)))
      exact hPr.stab _ _ (M + 5) _ s3 (hLsM _ (by omega)) (.inl (by rw [hg_ne (by omega), hg_ne (by omega), hg_ne (by omega)]; exact gM _ (by omega)))
    obtain ⟨I', hI'⟩ : ∃ I' : List GPair → Heap → Prop, I' = fun acc h => I acc h ∧ h.get (M + 5) = some (.raw (.loop lp)) ∧ h.get N = some (.av (.yld L)) := ⟨_, rfl⟩
    have hL5 : M + 5 ∉ Ls := hLsM _ (by omega)
    have hPr' : Prot I' ((M + 5) :: N :: Ls) := by
      subst hI'
      refine ⟨fun acc h o c hI ho hf => ?_, fun acc h hI o ho => ?_⟩
      · obtain ⟨i1, i2, i3⟩ := hI
        simp only [List.mem_cons, not_or] at ho
        exact ⟨hPr.stab _ _ _ _ i1 ho.2.2 hf, by rw [hg_ne ho.1]; exact i2, by rw [hg_ne ho.2.1]; exact i3⟩
      · obtain ⟨i1, i2, i3⟩ := hI
        simp only [List.mem_cons] at ho
        rcases ho with rfl | rfl | ho
        · rw [i2]; simp
        · rw [i3]; simp
        · exact hPr.pres _ _ i1 o ho
    have hY' : Yields C1 (M + 5) I' := by
      subst hI'
      intro ns' C' hg hp ops d' ty ps af tt as_ ats e hq ds' os Q acc' y hlt' hyld hIy hl1 hE1 hacc' hk'
      obtain ⟨i1, i2, i3⟩ := hIy
      obtain ⟨K, hK⟩ := heap_fresh hq
      have ltK : ∀ o c, hq.get o = some c → o < K := fun o c hc => by
        cases Nat.lt_or_ge o K with
        | inl h => exact h
        | inr h => rw [hK o h] at hc; cases hc
      have k5 := ltK _ _ i2
      have kN := ltK _ _ i3
      have hLsK : K ∉ Ls := fun hm => hPr.pres _ hq i1 K hm (hK K (Nat.le_refl _))
      refine R.yield (L := M + 5) (r := lp) (ns2 := Tryz.f161.ntmps) (xs := [.d (eGPair y)]) (wanted_plain rfl) hlt' hyld i2 hst (by rw [hps]; exact hl1) hl1 (by rfl) hE1 (hp _ _ _ hpin) (by rw [hps]; rfl) ?_
      intro C2 Y A hro2 hgl2 hb2 hpi he hn
      refine aw_code has ?_
      rw [hps]
      refine aw_r ?_
      refine .n (f_alloc K (by rfl) zrv170) rfl .nil (hK K (Nat.le_refl _)) ?_
      refine .s (f_store (n := 0) (o := K) (off := 0) (p := []) (c := .st [.d (eA46 (List.replicate 32 (0 : Int))), .d (.val (.slice none 0 0))]) (old := .st [.d (eA46 (List.replicate 32 (0 : Int))), .d (.val (.slice none 0 0))]) (z := .d (eGPair y)) (c' := .d (eGPair y)) rfl rfl (by rfl) ty170 (by rfl)) rfl (.c rfl (.c rfl .nil)) (.cons hg_eq .nil) ?_
      refine .nil (hn _ (by rw [hg_ne (by omega), hg_ne (by omega)]; exact i2) ?_)
      refine aw_code hbd ?_
      refine aw_block ?_
      refine aw_rs ?_
      refine .v (f_load (n := 0) (o := N) (off := 0) (p := []) (c := .yld L) (z := .yld L) (by rfl) rfl ty223' (by rfl)) rfl (.c rfl .nil) (.cons (by rw [hg_ne (by omega), hg_ne (by omega), hg_ne (by omega)]; exact i3) .nil) ?_
      refine .v (f_load (n := 0) (o := K) (off := 0) (p := []) (c := .d (eGPair y)) (z := .d (eGPair y)) (by rfl) rfl ty170 (by rfl)) rfl (.c rfl .nil) (.cons (by rw [hg_ne (by omega), hg_eq]) .nil) ?_
      have j1 := hPr.stab _ _ K (.av (.st [.d (eA46 (List.replicate 32 (0 : Int))), .d (.val (.slice none 0 0))])) i1 hLsK (.inl (hK K (Nat.le_refl _)))
      have j2 := hPr.stab _ _ K (.av (.d (eGPair y))) j1 hLsK (.inr ⟨_, hg_eq, keep_avst _⟩)
      have j3 := hPr.stab _ _ (M + 5) (.raw (.loop { lp with state := .busy })) j2 hL5 (.inr ⟨_, by rw [hg_ne (by omega), hg_ne (by omega)]; exact i2, keep_raw _⟩)
      refine hY _ C2 (hgl2.trans (hg.trans hg1)) (fun n e t k => hpi n e t (hp n e t (hp1 n e t k))) _ _ _ _ _ _ _ _ _ _ _ _ _ acc' y (by rfl) rfl j3 rfl (.c rfl .nil) hacc' (fun h3 hI3 hK3 => ?_)
      refine .v (f_not (by rfl)) rfl (.c rfl .nil) .nil ?_
      refine .nil (aq_then ?_)
      refine aw_cond rfl (fun hx => absurd hx (by simp)) (fun _ => ?_)
      refine aw_skip ?_
      refine aq_block ?_
      have e5 : h3.get (M + 5) = some (.raw (.loop { lp with state := .busy })) := hK3 _ _ hg_eq (keep_raw _)
      have eN : h3.get N = some (.av (.yld L)) := hK3 _ _ (by rw [hg_ne (by omega), hg_ne (by omega), hg_ne (by omega)]; exact i3) (keep_yld _)
      refine he .normal none _ rfl rfl e5 ?_
      refine R.again hst hpd ?_
      refine hk' _ ⟨hPr.stab _ _ _ _ hI3 hL5 (.inr ⟨_, e5, keep_raw _⟩), hg_eq, by rw [hg_ne (by omega)]; exact eN⟩ ?_
      intro o c hc hkeep
      have hoK := ltK _ _ hc
      by_cases ho : o = M + 5
      · subst ho; rw [i2] at hc; cases hc; exact hg_eq
      · rw [hg_ne (Ne.symm ho)]
        exact hK3 o c (by rw [hg_ne (Ne.symm ho), hg_ne (by omega), hg_ne (by omega)]; exact hc) hkeep
    rw [← hh0]
    refine ih (to k) (seg k) (hseg k hk) C1 E1 h0 (M + 5) (M + 2) (M + 3) I' ((M + 5) :: N :: Ls) (pre k) hro1 (hg1.trans hgl) (by rw [hh0]; exact hb1) hPr' hY' ?_ ?_ ?_ ?_ ?_
    · rw [hh0, hg_ne (by omega), hg_ne (by omega), hg_ne (by omega), hg_eq]
    · rw [hh0, hg_ne (by omega), hg_ne (by omega), hg_eq]
    · rw [hI']
      exact ⟨hI0, by rw [hh0, hg_eq], by rw [g0 _ hNM]; exact gy⟩
    · have := hpl (k + 1)
      rw [← hpre k hk, List.length_append] at this
      exact this
    · rw [hpre k hk]
      intro ex h'' env ds'' hex hmk hI'' hK''
      rw [hI'] at hI''
      obtain ⟨i1, i2, i3⟩ := hI''
      refine hend ex ⟨env, h'', ds''⟩ lp.state lp.pending hex hmk i2 (by rw [hst]; simp) ?_
      rw [hpd]
      refine aq_block ?_
      refine aq_block ?_
      refine aq_then ?_
      refine aw_r ?_
      refine .v (f_binI (by rfl) rfl (by rfl)) rfl (.c rfl (.c rfl .nil)) .nil ?_
      refine .mv rfl (by rfl) ?_
      refine .nil ?_
      have hw : IntKind.i64.wrap ((k : Int) + 1) = ((k + 1 : Nat) : Int) := by
        have : k = 0 ∨ k = 1 := by omega
        rcases this with rfl | rfl <;> decide +kernel
      rw [hw]
      refine aq_sube [(28, .d (.val (.int .i64 ((k + 1 : Nat) : Int)))), (27, .d (eA201 [x.Left, x.Right])), (3, .ptr N 0 []), (2, .ptr Bt 0 [])] (.keep rfl (.keep rfl (.keep rfl (.keep rfl .nil)))) ?_
      have h0D : h0.get (M + 4) = some (.raw (.deferred (some []))) := by rw [hh0, hg_ne (by omega), hg_eq]
      show AQ C _ .normal ⟨[(28, .d (.val (.int .i64 ((k + 1 : Nat) : Int)))), (27, .d (eA201 [x.Left, x.Right])), (3, .ptr N 0 []), (2, .ptr Bt 0 [])], (M + 5, .dead) :: marksDead h'' ds'', (M + 4) :: ds⟩
      refine aq_loop (m := fun z : Int × Heap × List Nat => (2 - z.1).toNat) (z := ((k : Int), hh, ds)) (((k + 1 : Nat) : Int), (M + 5, .dead) :: marksDead h'' ds'', (M + 4) :: ds) ?_ ?_
      rotate_left
      · show (2 - ((k + 1 : Nat) : Int)).toNat < (2 - (k : Int)).toNat
        omega
      refine ⟨k + 1, rfl, by omega, hPr.stab _ _ _ _ i1 hL5 (.inr ⟨_, i2, keep_raw _⟩), ?_, ?_, ?_⟩
      · intro o c hc hkeep
        have h1 := hKk o c hc hkeep
        have h2' := ltM _ _ h1
        rw [hg_ne (by omega)]
        exact hK'' o c (by rw [g0 _ h2']; exact h1) hkeep
      · intro D hD
        simp only [List.mem_cons] at hD
        rcases hD with rfl | hD
        · exact ⟨by omega, by rw [hg_ne (by omega)]; exact hK'' _ _ h0D (keep_raw _)⟩
        · obtain ⟨d1, d2⟩ := hds D hD
          have h2' := ltM _ _ d2
          exact ⟨d1, by rw [hg_ne (by omega)]; exact hK'' _ _ (by rw [g0 _ h2']; exact d2) (keep_raw _)⟩
      · refine List.nodup_cons.2 ⟨fun hm => ?_, hnd⟩
        have := ltM _ _ (hds _ hm).2
        omega
  · have hk : k = 2 := by have := of_decide_eq_false hc3; omega
    subst hk
    refine aw_exit ?_
    refine aq_then_exit ?_
    refine aq_then_exit ?_
    refine aq_block_exit ?_
    have hmk : marksOk hh ds := marks_ok ds hh (fun D hD => (hds D hD).2) hnd
    have hLsD : ∀ D ∈ ds, D ∉ Ls := fun D hD hm => hPr.pres _ h hI D hm (hN D (by have := (hds D hD).1; omega))
    refine hE .normal hh _ ds (.inr rfl) hmk (marks_prot hPr ds hh hIk (fun D hD => ⟨hLsD D hD, (hds D hD).2⟩) hnd) ?_
    intro o c hc hkeep
    have ho := hlt _ _ hc
    rw [marks_get ds hh o (fun hm => by have := (hds o hm).1; omega)]
    exact hKk o c (hK2 o c hc hkeep) hkeep
def F160_all (n : Nat) (a1 : Int) (a2 : GTree) : Option (List GPair) := (eachF a2 n a1).bind fun (l : List GPair) => if l.length ≤ 1073741824 then some l else none
theorem F160_all_ok {n : Nat} {a1 : Int} {a2 : GTree} {r : List GPair} (h : F160_all n a1 a2 = some r) :
    ACall Tryz.prog GS 160 [.d (.val (.slice none 0 0)), .fn (.func 161) [] [.ptr 0 0 [], .ptr 1 0 []]] [(0, .av (.d (.val (.int .i64 a1)))), (1, .av (.d (eGTree a2)))] (fun r' hp' => r' = .d (eL91 r) ∧ hp' = [(0, .av (.d (.val (.int .i64 a1)))), (1, .av (.d (eGTree a2)))]) := by
  refine acall_of_body mixed Tryz.func160 rfl (by rfl) ?_
  intro C hro hgl hb0
  unfold F160_all at h
  obtain ⟨l, hl, h⟩ := bind_some h
  obtain ⟨hlen, h⟩ := ifp h
  obtain rfl := Option.some.inj h
  refine aw_rs ?_
  refine .n (f_box 2 (by rfl) (by rfl)) rfl (.c rfl .nil) rfl ?_
  refine .as rfl (by rfl) ?_
  refine .nil (aq_then ?_)
  refine aw_adoptH 2 5 33 rfl rfl ?_
  refine aw_seq ?_
  refine aw_rs ?_
  refine .mv rfl (by rfl) ?_
  refine .nil (aq_then ?_)
  refine aw_block ?_
  obtain ⟨c1, hc1, hwk⟩ := each_walk a2
  refine aw_range2 1075 1074 hro rfl Tryz.func161 hc1 rfl en161 rfl rfl rfl (by rfl) ?_
  intro C1 lp E hro1 hg1 hp1 hb1 hst hpd hps has hbd hpin hend
  have hY : Yields C1 1074 (Hd lp) := by
    intro ns' C' hg hp ops d ty ps af tt as_ ats e h ds os Q acc x hlt hyld hI hlen1 hE hacc hk
    obtain ⟨oS, n1, n2, h1, h2, h3⟩ := hI
    obtain ⟨N, hN⟩ := heap_fresh h
    obtain ⟨M, hM⟩ : ∃ M, M = max N 2000 := ⟨_, rfl⟩
    have hM1 : ∀ o, M ≤ o → h.get o = none := fun o ho => hN o (by omega)
    have hM2 : 2000 ≤ M := by omega
    have hMS : oS < M := by
      cases Nat.lt_or_ge oS M with
      | inl h => exact h
      | inr h => rw [hM1 oS h] at h2; cases h2
    refine R.yield (L := 1074) (r := lp) (ns2 := Tryz.f160.ntmps) (xs := [.d (eGPair x)]) (wanted_plain rfl) hlt hyld h3 hst (by rw [hps]; exact hlen1) hlen1 (by rfl) hE (hp _ _ _ hpin) (by rw [hps]; rfl) ?_
    intro C2 Y A hro2 hgl2 hb2 hpi he hn
    refine aw_code has ?_
    rw [hps]
    refine aw_r ?_
    refine .n (f_alloc M (by rfl) zrv170) rfl .nil (hM1 M (Nat.le_refl _)) ?_
    refine .s (f_store (n := 0) (o := M) (off := 0) (p := []) (c := .st [.d (eA46 (List.replicate 32 (0 : Int))), .d (.val (.slice none 0 0))]) (old := .st [.d (eA46 (List.replicate 32 (0 : Int))), .d (.val (.slice none 0 0))]) (z := .d (eGPair x)) (c' := .d (eGPair x)) rfl rfl (by rfl) ty170 (by rfl)) rfl (.c rfl (.c rfl .nil)) (.cons hg_eq .nil) ?_
    refine .nil (hn _ (by rw [hg_ne (by omega), hg_ne (by omega)]; exact h3) ?_)
    refine aw_code hbd ?_
    refine aw_block ?_
    refine aw_r ?_
    refine .v (f_load (n := 0) (o := 2) (off := 0) (p := []) (c := .slc oS 0 acc.length 33) (z := .slc oS 0 acc.length 33) (by rfl) rfl ty91 (by rfl)) rfl (.c rfl .nil) (.cons (by rw [hg_ne (by omega), hg_ne (by omega), hg_ne (by omega)]; exact h1) .nil) ?_
    refine .v (f_load (n := 0) (o := M) (off := 0) (p := []) (c := .d (eGPair x)) (z := .d (eGPair x)) (by rfl) rfl ty170 (by rfl)) rfl (.c rfl .nil) (.cons (by rw [hg_ne (by omega), hg_eq]) .nil) ?_
    refine .n (f_buildS (xs := [(0, .d (eGPair x))]) (z := (.st [(eA46 (List.replicate 32 (0 : Int))), (.val (.slice none 0 0))])) (zs := (([x] : List GPair)).map eGPair) (M + 1) (by rfl) el91 zel91 (by rfl) (by decide) (by decide) rfl (by rfl) ⟨_, _, _, rfl, pl91_0, rfl, rfl, trivial⟩ (by rfl)) rfl (.c rfl .nil) (by rw [hg_ne (by omega), hg_ne (by omega), hg_ne (by omega)]; exact hM1 _ (by omega)) ?_
    have hb' : (acc ++ [x]).length ≤ 1073741824 := by simp; omega
    refine .w (f_appendC (o := oS) (off := 0) (len := acc.length) (sz := 33) (n := acc.length) (m := (acc ++ [x]).length) (ys := ([x] : List GPair).map eGPair) (xs := acc.map eGPair) (zs := (acc ++ [x]).map eGPair) (M + 2) (by rfl) el91 (by simp) (by simp) (by simp [List.map_drop]) (by simp) (Nat.le_trans (Nat.mul_le_mul_right _ hb') (by decide)) (Nat.le_trans hb' (by decide)) srcW) rfl (.c rfl (.c rfl .nil)) (.cons (by rw [hg_ne (by omega), hg_ne (by omega), hg_ne (by omega), hg_ne (by omega)]; exact h2) (.cons hg_eq .nil)) (.cons (by rw [hg_ne (by omega), hg_ne (by omega), hg_ne (by omega), hg_ne (by omega)]; exact hM1 _ (by omega)) .nil) ?_
    refine .s (f_store (n := 0) (o := 2) (off := 0) (p := []) (c := .slc oS 0 acc.length 33) (old := .slc oS 0 acc.length 33) (z := .slc (M + 2) 0 (acc ++ [x]).length 33) (c' := .slc (M + 2) 0 (acc ++ [x]).length 33) rfl rfl (by rfl) ty91 (by rfl)) rfl (.c rfl (.c rfl .nil)) (.cons (by simp only [List.cons_append, List.nil_append]; rw [hg_ne (by omega), hg_ne (by omega), hg_ne (by omega), hg_ne (by omega), hg_ne (by omega), hg_ne (by omega)]; exact h1) .nil) ?_
    refine .nil (aq_block ?_)
    refine he .normal none _ rfl rfl (by simp only [List.cons_append, List.nil_append]; rw [hg_ne (by omega), hg_ne (by omega), hg_ne (by omega), hg_ne (by omega), hg_eq]) ?_
    refine R.again hst hpd ?_
    refine hk _ ⟨M + 2, by omega, by omega, ?_, ?_, hg_eq⟩ ?_
    · simp only [List.cons_append, List.nil_append]; rw [hg_ne (by omega), hg_eq]
    · simp only [List.cons_append, List.nil_append]; rw [hg_ne (by omega), hg_ne (by omega), hg_eq]
    · intro o c hc hkeep
      have hoM : o < M := by
        cases Nat.lt_or_ge o M with
        | inl h => exact h
        | inr h => rw [hM1 o h] at hc; cases hc
      have ho2 : o ≠ 2 := fun e => by subst e; rw [h1] at hc; cases hc; exact hkeep.1 _ _ _ _ rfl
      have hoS : o ≠ oS := fun e => by subst e; rw [h2] at hc; cases hc; exact hkeep.2 _ _ rfl
      simp only [List.cons_append, List.nil_append]
      by_cases hoL : o = 1074
      · subst hoL; rw [h3] at hc; cases hc; exact hg_eq
      · rw [hg_ne (by omega), hg_ne (by omega), hg_ne (by omega), hg_ne (by omega), hg_ne (by omega), hg_ne (by omega), hg_ne (by omega), hg_ne (by omega)]; exact hc
  have hE : Ends C1 E (Hd lp) l ((1074, HO.raw (.loop lp)) :: (1075, .raw (.deferred (some []))) :: (2, .av (.slc 5 0 0 33)) :: (5, .av (.d (.arr 33 0 []))) :: (2, .av (.d (.val (.slice none 0 0)))) :: [(0, .av (.d (.val (.int .i64 a1)))), (1, .av (.d (eGTree a2)))]) := by
    intro ex h' env ds hex hmk hI hKp
    obtain ⟨oS, n1, n2, h1, h2, h3⟩ := hI
    have k0 := hKp 0 _ rfl (keep_val _)
    have k1 := hKp 1 _ rfl (keep_st _)
    have kD := hKp 1075 _ rfl (keep_raw _)
    have hoD : oS ≠ 1075 := fun e => by subst e; rw [h2] at kD; cases kD
    refine hend ex ⟨env, h', ds⟩ lp.state lp.pending hex hmk h3 (by rw [hst]; simp) ?_
    rw [hpd]
    refine aq_block ?_
    refine aq_then ?_
    refine aw_rs ?_
    refine .v (f_load (n := 0) (o := 2) (off := 0) (p := []) (c := .slc oS 0 l.length 33) (z := .slc oS 0 l.length 33) (by rfl) rfl ty91 (by rfl)) rfl (.c rfl .nil) (.cons (by rw [hg_ne (by decide)]; exact h1) .nil) ?_
    refine .as rfl (by rfl) ?_
    refine .nil (aq_then ?_)
    refine aw_ret ?_
    refine aq_marks (.inl rfl) ⟨by rw [hg_ne (by decide)]; exact kD, trivial⟩ ?_
    refine aq_freeze [(oS, .arr 33 l.length (l.map eGPair))] [(4, .d (eL91 l))] (.cons (by simp only [marksDead]; rw [hg_ne (Ne.symm hoD), hg_ne (Ne.symm n2)]; exact h2) .nil) (.cons rfl (.whole (.head _)) .nil) ?_
    have o0 : oS ≠ 0 := fun e => by subst e; rw [h2] at k0; cases k0
    have o1 : oS ≠ 1 := fun e => by subst e; rw [h2] at k1; cases k1
    refine aq_weak (s' := ⟨[(4, .d (eL91 l))], [(0, .av (.d (.val (.int .i64 a1)))), (1, .av (.d (eGTree a2)))], []⟩) id hb0 (.keep rfl .nil) (.keep ?_ (.keep ?_ .nil)) rfl (by rfl) ?_
    · simp only [deads, marksDead, List.cons_append, List.nil_append, List.map_cons, List.map_nil]
      rw [hg_ne o0, hg_ne (by decide), hg_ne (by decide)]; exact k0
    · simp only [deads, marksDead, List.cons_append, List.nil_append, List.map_cons, List.map_nil]
      rw [hg_ne o1, hg_ne (by decide), hg_ne (by decide)]; exact k1
    · exact aq_fin1 (.tmp rfl (by rfl) .nil) rfl ⟨rfl, rfl⟩
  refine hwk n a1 l hl C1 E _ 1074 1 0 (Hd lp) [1074] [] hro1 (hg1.trans hgl) hb1 (hd_prot lp) hY rfl rfl ⟨5, by decide, by decide, rfl, rfl, rfl⟩ (by simpa using hlen) ?_
  simpa using hE
end Go.Proofs.YtonfljoibcnlgaaGreatDoor
