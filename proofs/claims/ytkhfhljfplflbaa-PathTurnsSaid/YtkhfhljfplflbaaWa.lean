/-
  PRINTED by wip/pr.py: for each Go function a Lean function with the same answers, and the proof.
-/
import Derived.Test.YtkhfhljfplflbaaBn
import Derived.Test.YtkhfhljfplflbaaRows
import Derived.KernelRfl
namespace Go.Proofs.Ytkhfhljfplflbaa
open Bd
set_option maxRecDepth 10000
theorem mixed : Try.prog.follows .mixedOrders = true := by kernel_rfl
@[reducible] def eB (x : Bool) : D := .val (.bool x)
@[reducible] def eS (x : ByteArray) : D := .val (.string x)
@[reducible] def eI_u8 (x : Int) : D := .val (.int .u8 x)
@[reducible] def eI_u32 (x : Int) : D := .val (.int .u32 x)
@[reducible] def eI_u64 (x : Int) : D := .val (.int .u64 x)
@[reducible] def eI_i64 (x : Int) : D := .val (.int .i64 x)

@[reducible] def eA22 (x : (List Int)) : D := .arr 1 32 (x.map eI_u8)
@[reducible] def str0 : ByteArray := ⟨#[0, 1, 2, 2, 3, 3, 3, 3, 4, 4, 4, 4, 4, 4, 4, 4, 5, 5, 5, 5, 5, 5, 5, 5, 5, 5, 5, 5, 5, 5, 5, 5, 6, 6, 6, 6, 6, 6, 6, 6, 6, 6, 6, 6, 6, 6, 6, 6, 6, 6, 6, 6, 6, 6, 6, 6, 6, 6, 6, 6, 6, 6, 6, 6, 7, 7, 7, 7, 7, 7, 7, 7, 7, 7, 7, 7, 7, 7, 7, 7, 7, 7, 7, 7, 7, 7, 7, 7, 7, 7, 7, 7, 7, 7, 7, 7, 7, 7, 7, 7, 7, 7, 7, 7, 7, 7, 7, 7, 7, 7, 7, 7, 7, 7, 7, 7, 7, 7, 7, 7, 7, 7, 7, 7, 7, 7, 7, 7, 8, 8, 8, 8, 8, 8, 8, 8, 8, 8, 8, 8, 8, 8, 8, 8, 8, 8, 8, 8, 8, 8, 8, 8, 8, 8, 8, 8, 8, 8, 8, 8, 8, 8, 8, 8, 8, 8, 8, 8, 8, 8, 8, 8, 8, 8, 8, 8, 8, 8, 8, 8, 8, 8, 8, 8, 8, 8, 8, 8, 8, 8, 8, 8, 8, 8, 8, 8, 8, 8, 8, 8, 8, 8, 8, 8, 8, 8, 8, 8, 8, 8, 8, 8, 8, 8, 8, 8, 8, 8, 8, 8, 8, 8, 8, 8, 8, 8, 8, 8, 8, 8, 8, 8, 8, 8, 8, 8, 8, 8, 8, 8, 8, 8, 8, 8, 8, 8, 8, 8, 8, 8, 8, 8, 8, 8, 8, 8]⟩

theorem ar23 : arrB Try.prog 23 = some (32, 1) := by kernel_rfl
theorem ty5 : tyB Try.prog 5 = some (false, 1) := by kernel_rfl
theorem ty23 : tyB Try.prog 23 = some (true, 32) := by kernel_rfl
theorem zr23 : ∃ zv, zeroB Try.prog 23 = some zv ∧ ∀ F μ w, RA F μ w (.d (eA22 (List.replicate 32 (0 : Int)))) zv.cells.toList := zero_mk' (by kernel_rfl) (by kernel_rfl)
theorem ag23 : aggB Try.prog 23 = true := by kernel_rfl
theorem en19 : enterB Try.prog 19 = true := by kernel_rfl
theorem en14 : enterB Try.prog 14 = true := by kernel_rfl
theorem un5 : Try.prog.underlying 5 = some (.int .u8) := by kernel_rfl
theorem un3 : Try.prog.underlying 3 = some (.int .i64) := by kernel_rfl
theorem un9 : Try.prog.underlying 9 = some (.string) := by kernel_rfl
theorem en21 : enterB Try.prog 21 = true := by kernel_rfl
theorem en10 : enterB Try.prog 10 = true := by kernel_rfl

/- 10: beadroll/path.Bit -/
def F10_path_Bit (n : Nat) (a0 : (List Int)) (a1 : Int) : Option (Int × Int) :=
  (if (decide (a1 < (0 : Int))) = true then some ((0 : Int), (2 : Int)) else (if (decide (a1 ≥ (256 : Int))) = true then some ((0 : Int), (2 : Int)) else ((rd a0 (IntKind.i64.wrap (Int.tdiv a1 (8 : Int)))).bind fun (x3 : Int) => (if 0 ≤ (IntKind.i64.wrap ((7 : Int) - (Int.tmod a1 (8 : Int)))) then some ((bAnd .u8 (shr .u8 x3 (IntKind.i64.wrap ((7 : Int) - (Int.tmod a1 (8 : Int))))) (1 : Int)), (0 : Int)) else none))))
theorem F10_path_Bit_ok {n : Nat} {a0 : (List Int)} {a1 : Int} {r : Int × Int} (h : F10_path_Bit n a0 a1 = some r) :
    ACall Try.prog [] 10 [.d (eA22 a0), .d (.val (.int .i64 a1))] [] (fun r' hp' => r' = .res [.d (.val (.int .u8 r.1)), .d (.val (.int .i64 r.2))] ∧ hp' = []) := by
  refine acall_of_body mixed Try.func10 rfl (by rfl) ?_
  intro C hro hgl hb0
  unfold F10_path_Bit at h
  refine aw_rs ?_
  refine .n (f_box 2 (by rfl) (by rfl)) rfl (.c rfl .nil) rfl ?_
  refine .v (f_assign (by rfl)) rfl (.c rfl .nil) .nil ?_
  refine .v (f_assign (by rfl)) rfl (.c rfl .nil) .nil ?_
  refine .nil (aq_then ?_)
  refine aw_seq ?_
  refine aw_rs ?_
  refine .v (f_move (by rfl)) rfl (.c rfl .nil) .nil ?_
  refine .v (f_binI (by rfl) rfl (by rfl)) rfl (.c rfl (.c rfl .nil)) .nil ?_
  refine .v (f_move (by rfl)) rfl (.c rfl .nil) .nil ?_
  rcases Bool.eq_false_or_eq_true (decide (a1 < (0 : Int))) with hc1 | hc1
  · replace h := ite_t hc1 h
    refine .off rfl rfl rfl hc1 rfl (by rfl) ?_
    refine .off rfl rfl rfl hc1 rfl (by rfl) ?_
    refine .v (f_pick_true (by rfl) hc1) rfl (.c rfl (.c rfl .nil)) .nil ?_
    refine .nil (aq_then ?_)
    refine aw_cond rfl (fun _ => ?_) (fun hx => absurd (hx.symm.trans rfl) (by simp))
    refine aw_rs ?_
    refine .v (f_assign (by rfl)) rfl (.c rfl .nil) .nil ?_
    refine .v (f_assign (by rfl)) rfl (.c rfl .nil) .nil ?_
    refine .nil (aq_then ?_)
    refine aw_ret ?_
    refine aq_then_ret ?_
    obtain rfl := Option.some.inj h
    exact aq_finp hb0 rfl (.tmp rfl (by rfl) (.tmp rfl (by rfl) .nil)) (by rfl) rfl ⟨rfl, rfl⟩
  · replace h := ite_f hc1 h
    refine .gv (f_move (by rfl)) rfl rfl rfl hc1 (.c rfl .nil) .nil ?_
    refine .gv (f_binI (by rfl) rfl (by rfl)) rfl rfl rfl hc1 (.c rfl (.c rfl .nil)) .nil ?_
    refine .v (f_pick_false (by rfl) hc1) rfl (.c rfl (.c rfl .nil)) .nil ?_
    refine .nil (aq_then ?_)
    refine aw_cond rfl (fun hc2 => ?_) (fun hc2 => ?_)
    · replace h := ite_t hc2 h
      refine aw_rs ?_
      refine .v (f_assign (by rfl)) rfl (.c rfl .nil) .nil ?_
      refine .v (f_assign (by rfl)) rfl (.c rfl .nil) .nil ?_
      refine .nil (aq_then ?_)
      refine aw_ret ?_
      refine aq_then_ret ?_
      obtain rfl := Option.some.inj h
      exact aq_finp hb0 rfl (.tmp rfl (by rfl) (.tmp rfl (by rfl) .nil)) (by rfl) rfl ⟨rfl, rfl⟩
    · replace h := ite_f hc2 h
      refine aw_skip ?_
      refine aq_then ?_
      refine aw_rs ?_
      refine .v (f_move (by rfl)) rfl (.c rfl .nil) .nil ?_
      refine .v (f_binI (by rfl) (quo_ok (by decide)) (by rfl)) rfl (.c rfl (.c rfl .nil)) .nil ?_
      obtain ⟨x3, hx4, h⟩ := bind_some h
      obtain ⟨hx5, hx4⟩ := rd_some hx4
      refine .v (f_indexO (by rfl) ar23 rfl hx5 (rd_map _ hx4)) rfl (.c rfl (.c rfl .nil)) (.cons rfl .nil) ?_
      refine .v (f_load (n := 0) (o := 2) (off := (0 + ((IntKind.i64.wrap (Int.tdiv a1 (8 : Int)))).toNat * 1)) (p := [((IntKind.i64.wrap (Int.tdiv a1 (8 : Int)))).toNat]) (c := .d (eA22 a0)) (z := .d (.val (.int .u8 x3))) (by rfl) (at_map _ hx4 (by simp)) ty5 (by rfl)) rfl (.c rfl .nil) (.cons rfl .nil) ?_
      refine .v (f_move (by rfl)) rfl (.c rfl .nil) .nil ?_
      refine .v (f_binI (by rfl) (rem_ok (by decide)) (by rfl)) rfl (.c rfl (.c rfl .nil)) .nil ?_
      refine .v (f_binI (by rfl) rfl (by rfl)) rfl (.c rfl (.c rfl .nil)) .nil ?_
      obtain ⟨hz6, h⟩ := ifp h
      refine .v (f_shift (by rfl) (shr_ok hz6) (by rfl)) rfl (.c rfl (.c rfl .nil)) .nil ?_
      refine .v (f_binI (r := .int .u8 (bAnd .u8 (shr .u8 x3 (IntKind.i64.wrap ((7 : Int) - (Int.tmod a1 (8 : Int))))) (1 : Int))) (by rfl) rfl (by rfl)) rfl (.c rfl (.c rfl .nil)) .nil ?_
      refine .v (f_assign (by rfl)) rfl (.c rfl .nil) .nil ?_
      refine .v (f_assign (by rfl)) rfl (.c rfl .nil) .nil ?_
      refine .nil (aq_then ?_)
      refine aw_ret ?_
      obtain rfl := Option.some.inj h
      exact aq_finp hb0 rfl (.tmp rfl (by rfl) (.tmp rfl (by rfl) .nil)) (by rfl) rfl ⟨rfl, rfl⟩

/- 11: beadroll/path.Turn -/
def F11_path_Turn (n : Nat) (a0 : (List Int)) (a1 : Int) : Option ((List Int) × Int) :=
  (if (decide (a1 < (0 : Int))) = true then some ((List.replicate 32 (0 : Int)), (2 : Int)) else (if (decide (a1 ≥ (256 : Int))) = true then some ((List.replicate 32 (0 : Int)), (2 : Int)) else ((rd a0 (IntKind.i64.wrap (Int.tdiv a1 (8 : Int)))).bind fun (x3 : Int) => (if 0 ≤ (Int.tmod a1 (8 : Int)) then ((rd a0 (IntKind.i64.wrap (Int.tdiv a1 (8 : Int)))).bind fun (x7 : Int) => some ((a0.set ((IntKind.i64.wrap (Int.tdiv a1 (8 : Int)))).toNat (bXor .u8 x3 (shr .u8 (128 : Int) (Int.tmod a1 (8 : Int))))), (0 : Int))) else none))))
theorem F11_path_Turn_ok {n : Nat} {a0 : (List Int)} {a1 : Int} {r : (List Int) × Int} (h : F11_path_Turn n a0 a1 = some r) :
    ACall Try.prog [] 11 [.d (eA22 a0), .d (.val (.int .i64 a1))] [] (fun r' hp' => r' = .res [.d (eA22 r.1), .d (.val (.int .i64 r.2))] ∧ hp' = []) := by
  refine acall_of_body mixed Try.func11 rfl (by rfl) ?_
  intro C hro hgl hb0
  unfold F11_path_Turn at h
  refine aw_rs ?_
  refine .n (f_box 2 (by rfl) (by rfl)) rfl (.c rfl .nil) rfl ?_
  refine .n (f_alloc 4 (by rfl) zr23) rfl .nil rfl ?_
  refine .v (f_assign (by rfl)) rfl (.c rfl .nil) .nil ?_
  refine .nil (aq_then ?_)
  refine aw_seq ?_
  refine aw_rs ?_
  refine .v (f_move (by rfl)) rfl (.c rfl .nil) .nil ?_
  refine .v (f_binI (by rfl) rfl (by rfl)) rfl (.c rfl (.c rfl .nil)) .nil ?_
  refine .v (f_move (by rfl)) rfl (.c rfl .nil) .nil ?_
  rcases Bool.eq_false_or_eq_true (decide (a1 < (0 : Int))) with hc1 | hc1
  · replace h := ite_t hc1 h
    refine .off rfl rfl rfl hc1 rfl (by rfl) ?_
    refine .off rfl rfl rfl hc1 rfl (by rfl) ?_
    refine .v (f_pick_true (by rfl) hc1) rfl (.c rfl (.c rfl .nil)) .nil ?_
    refine .nil (aq_then ?_)
    refine aw_cond rfl (fun _ => ?_) (fun hx => absurd (hx.symm.trans rfl) (by simp))
    refine aw_rs ?_
    refine .v (f_build (xs := []) (z' := .d (eA22 (List.replicate 32 (0 : Int)))) (by rfl) zr23 ag23 rfl (by rfl) trivial (by rfl) (by rfl)) rfl .nil .nil ?_
    refine .s (f_store (n := 0) (o := 4) (off := 0) (p := []) (c := .d (eA22 (List.replicate 32 (0 : Int)))) (old := .d (eA22 (List.replicate 32 (0 : Int)))) (z := .d (eA22 (List.replicate 32 (0 : Int)))) (c' := .d (eA22 (List.replicate 32 (0 : Int)))) rfl rfl (by rfl) ty23 (by rfl)) rfl (.c rfl (.c rfl .nil)) (.cons rfl .nil) ?_
    refine .v (f_assign (by rfl)) rfl (.c rfl .nil) .nil ?_
    refine .nil (aq_then ?_)
    refine aw_ret ?_
    refine aq_then_ret ?_
    obtain rfl := Option.some.inj h
    exact aq_finp hb0 rfl (.cell rfl rfl ty23 (by rfl) (.tmp rfl (by rfl) .nil)) (by rfl) rfl ⟨rfl, rfl⟩
  · replace h := ite_f hc1 h
    refine .gv (f_move (by rfl)) rfl rfl rfl hc1 (.c rfl .nil) .nil ?_
    refine .gv (f_binI (by rfl) rfl (by rfl)) rfl rfl rfl hc1 (.c rfl (.c rfl .nil)) .nil ?_
    refine .v (f_pick_false (by rfl) hc1) rfl (.c rfl (.c rfl .nil)) .nil ?_
    refine .nil (aq_then ?_)
    refine aw_cond rfl (fun hc2 => ?_) (fun hc2 => ?_)
    · replace h := ite_t hc2 h
      refine aw_rs ?_
      refine .v (f_build (xs := []) (z' := .d (eA22 (List.replicate 32 (0 : Int)))) (by rfl) zr23 ag23 rfl (by rfl) trivial (by rfl) (by rfl)) rfl .nil .nil ?_
      refine .s (f_store (n := 0) (o := 4) (off := 0) (p := []) (c := .d (eA22 (List.replicate 32 (0 : Int)))) (old := .d (eA22 (List.replicate 32 (0 : Int)))) (z := .d (eA22 (List.replicate 32 (0 : Int)))) (c' := .d (eA22 (List.replicate 32 (0 : Int)))) rfl rfl (by rfl) ty23 (by rfl)) rfl (.c rfl (.c rfl .nil)) (.cons rfl .nil) ?_
      refine .v (f_assign (by rfl)) rfl (.c rfl .nil) .nil ?_
      refine .nil (aq_then ?_)
      refine aw_ret ?_
      refine aq_then_ret ?_
      obtain rfl := Option.some.inj h
      exact aq_finp hb0 rfl (.cell rfl rfl ty23 (by rfl) (.tmp rfl (by rfl) .nil)) (by rfl) rfl ⟨rfl, rfl⟩
    · replace h := ite_f hc2 h
      refine aw_skip ?_
      refine aq_then ?_
      refine aw_rds ?_
      refine .v (f_move (by rfl)) rfl (.c rfl .nil) .nil ?_
      refine .v (f_binI (by rfl) (quo_ok (by decide)) (by rfl)) rfl (.c rfl (.c rfl .nil)) .nil ?_
      obtain ⟨x3, hx4, h⟩ := bind_some h
      obtain ⟨hx5, hx4⟩ := rd_some hx4
      refine .v (f_indexO (by rfl) ar23 rfl hx5 (rd_map _ hx4)) rfl (.c rfl (.c rfl .nil)) (.cons rfl .nil) ?_
      refine .v (f_load (n := 0) (o := 2) (off := (0 + ((IntKind.i64.wrap (Int.tdiv a1 (8 : Int)))).toNat * 1)) (p := [((IntKind.i64.wrap (Int.tdiv a1 (8 : Int)))).toNat]) (c := .d (eA22 a0)) (z := .d (.val (.int .u8 x3))) (by rfl) (at_map _ hx4 (by simp)) ty5 (by rfl)) rfl (.c rfl .nil) (.cons rfl .nil) ?_
      refine .v (f_move (by rfl)) rfl (.c rfl .nil) .nil ?_
      refine .v (f_binI (by rfl) (rem_ok (by decide)) (by rfl)) rfl (.c rfl (.c rfl .nil)) .nil ?_
      obtain ⟨hz6, h⟩ := ifp h
      refine .v (f_shift (by rfl) (shr_ok hz6) (by rfl)) rfl (.c rfl (.c rfl .nil)) .nil ?_
      refine .v (f_binI (r := .int .u8 (bXor .u8 x3 (shr .u8 (128 : Int) (Int.tmod a1 (8 : Int))))) (by rfl) rfl (by rfl)) rfl (.c rfl (.c rfl .nil)) .nil ?_
      obtain ⟨x7, hx8, h⟩ := bind_some h
      obtain ⟨hx9, hx8⟩ := rd_some hx8
      refine .v (f_indexO (by rfl) ar23 rfl hx9 (rd_map _ hx8)) rfl (.c rfl (.c rfl .nil)) (.cons rfl .nil) ?_
      refine .s (f_store (n := 0) (o := 2) (off := (0 + ((IntKind.i64.wrap (Int.tdiv a1 (8 : Int)))).toNat * 1)) (p := [((IntKind.i64.wrap (Int.tdiv a1 (8 : Int)))).toNat]) (c := .d (eA22 a0)) (old := .d (.val (.int .u8 x7))) (z := .d (.val (.int .u8 (bXor .u8 x3 (shr .u8 (128 : Int) (Int.tmod a1 (8 : Int))))))) (c' := .d (eA22 (a0.set ((IntKind.i64.wrap (Int.tdiv a1 (8 : Int)))).toNat (bXor .u8 x3 (shr .u8 (128 : Int) (Int.tmod a1 (8 : Int))))))) (at_map _ hx8 (by simp)) (put_map _ hx8) (by rfl) ty5 (by rfl)) rfl (.c rfl (.c rfl .nil)) (.cons rfl .nil) ?_
      refine .nil (by kernel_rfl) ?_
      refine aw_rs ?_
      refine .v (f_load (n := 0) (o := 2) (off := 0) (p := []) (c := .d (eA22 (a0.set ((IntKind.i64.wrap (Int.tdiv a1 (8 : Int)))).toNat (bXor .u8 x3 (shr .u8 (128 : Int) (Int.tmod a1 (8 : Int))))))) (z := .d (eA22 (a0.set ((IntKind.i64.wrap (Int.tdiv a1 (8 : Int)))).toNat (bXor .u8 x3 (shr .u8 (128 : Int) (Int.tmod a1 (8 : Int))))))) (by rfl) rfl ty23 (by rfl)) rfl (.c rfl .nil) (.cons rfl .nil) ?_
      refine .s (f_store (n := 0) (o := 4) (off := 0) (p := []) (c := .d (eA22 (List.replicate 32 (0 : Int)))) (old := .d (eA22 (List.replicate 32 (0 : Int)))) (z := .d (eA22 (a0.set ((IntKind.i64.wrap (Int.tdiv a1 (8 : Int)))).toNat (bXor .u8 x3 (shr .u8 (128 : Int) (Int.tmod a1 (8 : Int))))))) (c' := .d (eA22 (a0.set ((IntKind.i64.wrap (Int.tdiv a1 (8 : Int)))).toNat (bXor .u8 x3 (shr .u8 (128 : Int) (Int.tmod a1 (8 : Int))))))) rfl rfl (by rfl) ty23 (by rfl)) rfl (.c rfl (.c rfl .nil)) (.cons rfl .nil) ?_
      refine .v (f_assign (by rfl)) rfl (.c rfl .nil) .nil ?_
      refine .nil (aq_then ?_)
      refine aw_ret ?_
      obtain rfl := Option.some.inj h
      exact aq_finp hb0 rfl (.cell rfl rfl ty23 (by rfl) (.tmp rfl (by rfl) .nil)) (by rfl) rfl ⟨rfl, rfl⟩

/- 19: beadroll/beadrollref04.At -/
def F19_beadrollref04_At_l0 (a1 : Int) : Nat → Int → Int →  Option (Int)
  | 0, _, _ => none
  | n + 1, z0_0, z0_1 => (if (decide (z0_1 > (Int.tmod a1 (8 : Int)))) = true then F19_beadrollref04_At_l0 a1 n (IntKind.u8.wrap (Int.tdiv z0_0 (2 : Int))) (IntKind.i64.wrap (z0_1 - (1 : Int))) else some ((Int.tmod z0_0 (2 : Int))))
def F19_beadrollref04_At (n : Nat) (a0 : (List Int)) (a1 : Int) : Option (Int) :=
  ((rd a0 (IntKind.i64.wrap (Int.tdiv a1 (8 : Int)))).bind fun (x1 : Int) => F19_beadrollref04_At_l0 a1 n x1 (7 : Int))
theorem F19_beadrollref04_At_ok {n : Nat} {a0 : (List Int)} {a1 : Int} {r : Int} (h : F19_beadrollref04_At n a0 a1 = some r) :
    ACall Try.prog [] 19 [.d (eA22 a0), .d (.val (.int .i64 a1))] [] (fun r' hp' => r' = .d (.val (.int .u8 r)) ∧ hp' = []) := by
  refine acall_of_body mixed Try.func19 rfl (by rfl) ?_
  intro C hro hgl hb0
  unfold F19_beadrollref04_At at h
  refine aw_rs ?_
  refine .n (f_box 2 (by rfl) (by rfl)) rfl (.c rfl .nil) rfl ?_
  refine .v (f_assign (by rfl)) rfl (.c rfl .nil) .nil ?_
  refine .nil (aq_then ?_)
  refine aw_rs ?_
  refine .v (f_move (by rfl)) rfl (.c rfl .nil) .nil ?_
  refine .v (f_binI (by rfl) (quo_ok (by decide)) (by rfl)) rfl (.c rfl (.c rfl .nil)) .nil ?_
  obtain ⟨x1, hx2, h⟩ := bind_some h
  obtain ⟨hx3, hx2⟩ := rd_some hx2
  refine .v (f_indexO (by rfl) ar23 rfl hx3 (rd_map _ hx2)) rfl (.c rfl (.c rfl .nil)) (.cons rfl .nil) ?_
  refine .v (f_load (n := 0) (o := 2) (off := (0 + ((IntKind.i64.wrap (Int.tdiv a1 (8 : Int)))).toNat * 1)) (p := [((IntKind.i64.wrap (Int.tdiv a1 (8 : Int)))).toNat]) (c := .d (eA22 a0)) (z := .d (.val (.int .u8 x1))) (by rfl) (at_map _ hx2 (by simp)) ty5 (by rfl)) rfl (.c rfl .nil) (.cons rfl .nil) ?_
  refine .v (f_assign (by rfl)) rfl (.c rfl .nil) .nil ?_
  refine .nil (aq_then ?_)
  refine aw_seq ?_
  refine aw_rs ?_
  refine .v (f_assign (by rfl)) rfl (.c rfl .nil) .nil ?_
  refine .nil (aq_then ?_)
  refine aw_block ?_
  refine aw_weak (s' := ⟨[(1, .d (.val (.int .i64 a1))), (5, .d (.val (.int .u8 x1))), (6, .d (.val (.int .i64 (7 : Int))))], [], []⟩) id hb0 (.keep rfl (.keep rfl (.keep rfl .nil))) .nil rfl (by rfl) ?_
  refine aw_loop (σ := Nat × Int × Int) (fun z => ⟨[(1, .d (.val (.int .i64 a1))), (5, .d (.val (.int .u8 z.2.1))), (6, .d (.val (.int .i64 z.2.2)))], [], []⟩) (fun z => F19_beadrollref04_At_l0 a1 z.1 (z.2.1) (z.2.2) = some r) (fun z => z.1) (n, x1, (7 : Int)) h ?_
  clear h
  rintro ⟨n_, z0_0, z0_1⟩ h
  obtain _ | n_ := n_
  · simp only [F19_beadrollref04_At_l0] at h; cases h
  · simp only [F19_beadrollref04_At_l0] at h
    show AW C _ _ ⟨[(1, .d (.val (.int .i64 a1))), (5, .d (.val (.int .u8 z0_0))), (6, .d (.val (.int .i64 z0_1)))], [], []⟩
    refine aw_seq ?_
    refine aw_rs ?_
    refine .v (f_move (by rfl)) rfl (.c rfl .nil) .nil ?_
    refine .v (f_move (by rfl)) rfl (.c rfl .nil) .nil ?_
    refine .v (f_binI (by rfl) (rem_ok (by decide)) (by rfl)) rfl (.c rfl (.c rfl .nil)) .nil ?_
    refine .v (f_binI (by rfl) rfl (by rfl)) rfl (.c rfl (.c rfl .nil)) .nil ?_
    refine .nil (aq_then ?_)
    refine aw_cond rfl (fun hc4 => ?_) (fun hc4 => ?_)
    · replace h := ite_t hc4 h
      refine aw_skip ?_
      refine aq_then ?_
      refine aw_seq ?_
      refine aw_block ?_
      refine aw_r ?_
      refine .v (f_move (by rfl)) rfl (.c rfl .nil) .nil ?_
      refine .v (f_binI (by rfl) (quo_ok (by decide)) (by rfl)) rfl (.c rfl (.c rfl .nil)) .nil ?_
      refine .v (f_assign (by rfl)) rfl (.c rfl .nil) .nil ?_
      refine .nil ?_
      refine aq_block ?_
      refine aq_then ?_
      refine aw_r ?_
      refine .v (f_move (by rfl)) rfl (.c rfl .nil) .nil ?_
      refine .v (f_binI (by rfl) rfl (by rfl)) rfl (.c rfl (.c rfl .nil)) .nil ?_
      refine .v (f_assign (by rfl)) rfl (.c rfl .nil) .nil ?_
      refine .nil ?_
      refine aq_weak (s' := ⟨[(1, .d (.val (.int .i64 a1))), (5, .d (.val (.int .u8 (IntKind.u8.wrap (Int.tdiv z0_0 (2 : Int)))))), (6, .d (.val (.int .i64 (IntKind.i64.wrap (z0_1 - (1 : Int))))))], [], []⟩) id hb0 (.keep rfl (.keep rfl (.keep rfl .nil))) .nil rfl (by rfl) ?_
      exact aq_loop (_, (IntKind.u8.wrap (Int.tdiv z0_0 (2 : Int))), (IntKind.i64.wrap (z0_1 - (1 : Int)))) h (Nat.lt_succ_self _)
    · replace h := ite_f hc4 h
      refine aw_exit ?_
      refine aq_then_exit ?_
      refine aq_then_exit ?_
      refine aq_block_exit ?_
      refine aq_then ?_
      refine aw_rs ?_
      refine .v (f_move (by rfl)) rfl (.c rfl .nil) .nil ?_
      refine .v (f_binI (by rfl) (rem_ok (by decide)) (by rfl)) rfl (.c rfl (.c rfl .nil)) .nil ?_
      refine .v (f_assign (by rfl)) rfl (.c rfl .nil) .nil ?_
      refine .nil (aq_then ?_)
      refine aw_ret ?_
      obtain rfl := Option.some.inj h
      exact aq_finp hb0 rfl (.tmp rfl (by rfl) .nil) (by rfl) rfl ⟨rfl, rfl⟩

/- 12: beadroll/beadrollref04.Bit -/
def F12_beadrollref04_Bit (n : Nat) (a0 : (List Int)) (a1 : Int) : Option (Int × Int) :=
  (if (decide (a1 < (0 : Int))) = true then some ((0 : Int), (2 : Int)) else (if (decide (a1 ≥ (256 : Int))) = true then some ((0 : Int), (2 : Int)) else ((F19_beadrollref04_At n a0 a1).bind fun (y3 : Int) => some (y3, (0 : Int)))))
theorem F12_beadrollref04_Bit_ok {n : Nat} {a0 : (List Int)} {a1 : Int} {r : Int × Int} (h : F12_beadrollref04_Bit n a0 a1 = some r) :
    ACall Try.prog [] 12 [.d (eA22 a0), .d (.val (.int .i64 a1))] [] (fun r' hp' => r' = .res [.d (.val (.int .u8 r.1)), .d (.val (.int .i64 r.2))] ∧ hp' = []) := by
  refine acall_of_body mixed Try.func12 rfl (by rfl) ?_
  intro C hro hgl hb0
  unfold F12_beadrollref04_Bit at h
  refine aw_rs ?_
  refine .n (f_box 2 (by rfl) (by rfl)) rfl (.c rfl .nil) rfl ?_
  refine .v (f_assign (by rfl)) rfl (.c rfl .nil) .nil ?_
  refine .v (f_assign (by rfl)) rfl (.c rfl .nil) .nil ?_
  refine .nil (aq_then ?_)
  refine aw_seq ?_
  refine aw_rs ?_
  refine .v (f_move (by rfl)) rfl (.c rfl .nil) .nil ?_
  refine .v (f_binI (by rfl) rfl (by rfl)) rfl (.c rfl (.c rfl .nil)) .nil ?_
  refine .v (f_move (by rfl)) rfl (.c rfl .nil) .nil ?_
  rcases Bool.eq_false_or_eq_true (decide (a1 < (0 : Int))) with hc1 | hc1
  · replace h := ite_t hc1 h
    refine .off rfl rfl rfl hc1 rfl (by rfl) ?_
    refine .off rfl rfl rfl hc1 rfl (by rfl) ?_
    refine .v (f_pick_true (by rfl) hc1) rfl (.c rfl (.c rfl .nil)) .nil ?_
    refine .nil (aq_then ?_)
    refine aw_cond rfl (fun _ => ?_) (fun hx => absurd (hx.symm.trans rfl) (by simp))
    refine aw_rs ?_
    refine .v (f_assign (by rfl)) rfl (.c rfl .nil) .nil ?_
    refine .v (f_assign (by rfl)) rfl (.c rfl .nil) .nil ?_
    refine .nil (aq_then ?_)
    refine aw_ret ?_
    refine aq_then_ret ?_
    obtain rfl := Option.some.inj h
    exact aq_finp hb0 rfl (.tmp rfl (by rfl) (.tmp rfl (by rfl) .nil)) (by rfl) rfl ⟨rfl, rfl⟩
  · replace h := ite_f hc1 h
    refine .gv (f_move (by rfl)) rfl rfl rfl hc1 (.c rfl .nil) .nil ?_
    refine .gv (f_binI (by rfl) rfl (by rfl)) rfl rfl rfl hc1 (.c rfl (.c rfl .nil)) .nil ?_
    refine .v (f_pick_false (by rfl) hc1) rfl (.c rfl (.c rfl .nil)) .nil ?_
    refine .nil (aq_then ?_)
    refine aw_cond rfl (fun hc2 => ?_) (fun hc2 => ?_)
    · replace h := ite_t hc2 h
      refine aw_rs ?_
      refine .v (f_assign (by rfl)) rfl (.c rfl .nil) .nil ?_
      refine .v (f_assign (by rfl)) rfl (.c rfl .nil) .nil ?_
      refine .nil (aq_then ?_)
      refine aw_ret ?_
      refine aq_then_ret ?_
      obtain rfl := Option.some.inj h
      exact aq_finp hb0 rfl (.tmp rfl (by rfl) (.tmp rfl (by rfl) .nil)) (by rfl) rfl ⟨rfl, rfl⟩
    · replace h := ite_f hc2 h
      refine aw_skip ?_
      refine aq_then ?_
      refine aw_rs ?_
      refine .v (f_load (n := 0) (o := 2) (off := 0) (p := []) (c := .d (eA22 a0)) (z := .d (eA22 a0)) (by rfl) rfl ty23 (by rfl)) rfl (.c rfl .nil) (.cons rfl .nil) ?_
      refine .v (f_move (by rfl)) rfl (.c rfl .nil) .nil ?_
      obtain ⟨y3, hy4, h⟩ := bind_some h
      refine .v (f_callP hgl (by rfl) en19 rfl (by rfl) (by rfl) (by rfl) (F19_beadrollref04_At_ok hy4)) rfl (.c rfl (.c rfl .nil)) .nil ?_
      refine .v (f_assign (by rfl)) rfl (.c rfl .nil) .nil ?_
      refine .v (f_assign (by rfl)) rfl (.c rfl .nil) .nil ?_
      refine .nil (aq_then ?_)
      refine aw_ret ?_
      obtain rfl := Option.some.inj h
      exact aq_finp hb0 rfl (.tmp rfl (by rfl) (.tmp rfl (by rfl) .nil)) (by rfl) rfl ⟨rfl, rfl⟩

/- 13: beadroll/beadrollref04.Turn -/
def F13_beadrollref04_Turn_l0 (a0 : (List Int)) (a1 : Int) : Nat → Int → Int →  Option ((List Int) × Int)
  | 0, _, _ => none
  | n + 1, z0_0, z0_1 => (if (decide (z0_1 > (Int.tmod a1 (8 : Int)))) = true then F13_beadrollref04_Turn_l0 a0 a1 n (IntKind.u8.wrap ((2 : Int) * z0_0)) (IntKind.i64.wrap (z0_1 - (1 : Int))) else ((F19_beadrollref04_At n a0 a1).bind fun (y4 : Int) => (if (y4 == (1 : Int)) = true then ((rd a0 (IntKind.i64.wrap (Int.tdiv a1 (8 : Int)))).bind fun (x7 : Int) => ((rd a0 (IntKind.i64.wrap (Int.tdiv a1 (8 : Int)))).bind fun (x10 : Int) => some ((a0.set ((IntKind.i64.wrap (Int.tdiv a1 (8 : Int)))).toNat (IntKind.u8.wrap (x7 - z0_0))), (0 : Int)))) else ((rd a0 (IntKind.i64.wrap (Int.tdiv a1 (8 : Int)))).bind fun (x13 : Int) => ((rd a0 (IntKind.i64.wrap (Int.tdiv a1 (8 : Int)))).bind fun (x16 : Int) => some ((a0.set ((IntKind.i64.wrap (Int.tdiv a1 (8 : Int)))).toNat (IntKind.u8.wrap (x13 + z0_0))), (0 : Int)))))))
def F13_beadrollref04_Turn (n : Nat) (a0 : (List Int)) (a1 : Int) : Option ((List Int) × Int) :=
  (if (decide (a1 < (0 : Int))) = true then some ((List.replicate 32 (0 : Int)), (2 : Int)) else (if (decide (a1 ≥ (256 : Int))) = true then some ((List.replicate 32 (0 : Int)), (2 : Int)) else F13_beadrollref04_Turn_l0 a0 a1 n (1 : Int) (7 : Int)))
theorem F13_beadrollref04_Turn_ok {n : Nat} {a0 : (List Int)} {a1 : Int} {r : (List Int) × Int} (h : F13_beadrollref04_Turn n a0 a1 = some r) :
    ACall Try.prog [] 13 [.d (eA22 a0), .d (.val (.int .i64 a1))] [] (fun r' hp' => r' = .res [.d (eA22 r.1), .d (.val (.int .i64 r.2))] ∧ hp' = []) := by
  refine acall_of_body mixed Try.func13 rfl (by rfl) ?_
  intro C hro hgl hb0
  unfold F13_beadrollref04_Turn at h
  refine aw_rs ?_
  refine .n (f_box 2 (by rfl) (by rfl)) rfl (.c rfl .nil) rfl ?_
  refine .n (f_alloc 4 (by rfl) zr23) rfl .nil rfl ?_
  refine .v (f_assign (by rfl)) rfl (.c rfl .nil) .nil ?_
  refine .nil (aq_then ?_)
  refine aw_seq ?_
  refine aw_rs ?_
  refine .v (f_move (by rfl)) rfl (.c rfl .nil) .nil ?_
  refine .v (f_binI (by rfl) rfl (by rfl)) rfl (.c rfl (.c rfl .nil)) .nil ?_
  refine .v (f_move (by rfl)) rfl (.c rfl .nil) .nil ?_
  rcases Bool.eq_false_or_eq_true (decide (a1 < (0 : Int))) with hc1 | hc1
  · replace h := ite_t hc1 h
    refine .off rfl rfl rfl hc1 rfl (by rfl) ?_
    refine .off rfl rfl rfl hc1 rfl (by rfl) ?_
    refine .v (f_pick_true (by rfl) hc1) rfl (.c rfl (.c rfl .nil)) .nil ?_
    refine .nil (aq_then ?_)
    refine aw_cond rfl (fun _ => ?_) (fun hx => absurd (hx.symm.trans rfl) (by simp))
    refine aw_rs ?_
    refine .v (f_build (xs := []) (z' := .d (eA22 (List.replicate 32 (0 : Int)))) (by rfl) zr23 ag23 rfl (by rfl) trivial (by rfl) (by rfl)) rfl .nil .nil ?_
    refine .s (f_store (n := 0) (o := 4) (off := 0) (p := []) (c := .d (eA22 (List.replicate 32 (0 : Int)))) (old := .d (eA22 (List.replicate 32 (0 : Int)))) (z := .d (eA22 (List.replicate 32 (0 : Int)))) (c' := .d (eA22 (List.replicate 32 (0 : Int)))) rfl rfl (by rfl) ty23 (by rfl)) rfl (.c rfl (.c rfl .nil)) (.cons rfl .nil) ?_
    refine .v (f_assign (by rfl)) rfl (.c rfl .nil) .nil ?_
    refine .nil (aq_then ?_)
    refine aw_ret ?_
    refine aq_then_ret ?_
    obtain rfl := Option.some.inj h
    exact aq_finp hb0 rfl (.cell rfl rfl ty23 (by rfl) (.tmp rfl (by rfl) .nil)) (by rfl) rfl ⟨rfl, rfl⟩
  · replace h := ite_f hc1 h
    refine .gv (f_move (by rfl)) rfl rfl rfl hc1 (.c rfl .nil) .nil ?_
    refine .gv (f_binI (by rfl) rfl (by rfl)) rfl rfl rfl hc1 (.c rfl (.c rfl .nil)) .nil ?_
    refine .v (f_pick_false (by rfl) hc1) rfl (.c rfl (.c rfl .nil)) .nil ?_
    refine .nil (aq_then ?_)
    refine aw_cond rfl (fun hc2 => ?_) (fun hc2 => ?_)
    · replace h := ite_t hc2 h
      refine aw_rs ?_
      refine .v (f_build (xs := []) (z' := .d (eA22 (List.replicate 32 (0 : Int)))) (by rfl) zr23 ag23 rfl (by rfl) trivial (by rfl) (by rfl)) rfl .nil .nil ?_
      refine .s (f_store (n := 0) (o := 4) (off := 0) (p := []) (c := .d (eA22 (List.replicate 32 (0 : Int)))) (old := .d (eA22 (List.replicate 32 (0 : Int)))) (z := .d (eA22 (List.replicate 32 (0 : Int)))) (c' := .d (eA22 (List.replicate 32 (0 : Int)))) rfl rfl (by rfl) ty23 (by rfl)) rfl (.c rfl (.c rfl .nil)) (.cons rfl .nil) ?_
      refine .v (f_assign (by rfl)) rfl (.c rfl .nil) .nil ?_
      refine .nil (aq_then ?_)
      refine aw_ret ?_
      refine aq_then_ret ?_
      obtain rfl := Option.some.inj h
      exact aq_finp hb0 rfl (.cell rfl rfl ty23 (by rfl) (.tmp rfl (by rfl) .nil)) (by rfl) rfl ⟨rfl, rfl⟩
    · replace h := ite_f hc2 h
      refine aw_skip ?_
      refine aq_then ?_
      refine aw_rs ?_
      refine .v (f_assign (by rfl)) rfl (.c rfl .nil) .nil ?_
      refine .nil (aq_then ?_)
      refine aw_seq ?_
      refine aw_rs ?_
      refine .v (f_assign (by rfl)) rfl (.c rfl .nil) .nil ?_
      refine .nil (aq_then ?_)
      refine aw_block ?_
      refine aw_weak (s' := ⟨[(1, .d (.val (.int .i64 a1))), (2, .ptr 2 0 []), (4, .ptr 4 0 []), (6, .d (.val (.int .u8 (1 : Int)))), (7, .d (.val (.int .i64 (7 : Int))))], [(2, .av (.d (eA22 a0))), (4, .av (.d (eA22 (List.replicate 32 (0 : Int)))))], []⟩) id hb0 (.keep rfl (.keep rfl (.keep rfl (.keep rfl (.keep rfl .nil))))) (.keep rfl (.keep rfl .nil)) rfl (by rfl) ?_
      refine aw_loop (σ := Nat × Int × Int) (fun z => ⟨[(1, .d (.val (.int .i64 a1))), (2, .ptr 2 0 []), (4, .ptr 4 0 []), (6, .d (.val (.int .u8 z.2.1))), (7, .d (.val (.int .i64 z.2.2)))], [(2, .av (.d (eA22 a0))), (4, .av (.d (eA22 (List.replicate 32 (0 : Int)))))], []⟩) (fun z => F13_beadrollref04_Turn_l0 a0 a1 z.1 (z.2.1) (z.2.2) = some r) (fun z => z.1) (n, (1 : Int), (7 : Int)) h ?_
      clear h
      rintro ⟨n_, z0_0, z0_1⟩ h
      obtain _ | n_ := n_
      · simp only [F13_beadrollref04_Turn_l0] at h; cases h
      · simp only [F13_beadrollref04_Turn_l0] at h
        show AW C _ _ ⟨[(1, .d (.val (.int .i64 a1))), (2, .ptr 2 0 []), (4, .ptr 4 0 []), (6, .d (.val (.int .u8 z0_0))), (7, .d (.val (.int .i64 z0_1)))], [(2, .av (.d (eA22 a0))), (4, .av (.d (eA22 (List.replicate 32 (0 : Int)))))], []⟩
        refine aw_seq ?_
        refine aw_rs ?_
        refine .v (f_move (by rfl)) rfl (.c rfl .nil) .nil ?_
        refine .v (f_move (by rfl)) rfl (.c rfl .nil) .nil ?_
        refine .v (f_binI (by rfl) (rem_ok (by decide)) (by rfl)) rfl (.c rfl (.c rfl .nil)) .nil ?_
        refine .v (f_binI (by rfl) rfl (by rfl)) rfl (.c rfl (.c rfl .nil)) .nil ?_
        refine .nil (aq_then ?_)
        refine aw_cond rfl (fun hc3 => ?_) (fun hc3 => ?_)
        · replace h := ite_t hc3 h
          refine aw_skip ?_
          refine aq_then ?_
          refine aw_seq ?_
          refine aw_block ?_
          refine aw_r ?_
          refine .v (f_move (by rfl)) rfl (.c rfl .nil) .nil ?_
          refine .v (f_binI (by rfl) rfl (by rfl)) rfl (.c rfl (.c rfl .nil)) .nil ?_
          refine .v (f_assign (by rfl)) rfl (.c rfl .nil) .nil ?_
          refine .nil ?_
          refine aq_block ?_
          refine aq_then ?_
          refine aw_r ?_
          refine .v (f_move (by rfl)) rfl (.c rfl .nil) .nil ?_
          refine .v (f_binI (by rfl) rfl (by rfl)) rfl (.c rfl (.c rfl .nil)) .nil ?_
          refine .v (f_assign (by rfl)) rfl (.c rfl .nil) .nil ?_
          refine .nil ?_
          refine aq_weak (s' := ⟨[(1, .d (.val (.int .i64 a1))), (2, .ptr 2 0 []), (4, .ptr 4 0 []), (6, .d (.val (.int .u8 (IntKind.u8.wrap ((2 : Int) * z0_0))))), (7, .d (.val (.int .i64 (IntKind.i64.wrap (z0_1 - (1 : Int))))))], [(2, .av (.d (eA22 a0))), (4, .av (.d (eA22 (List.replicate 32 (0 : Int)))))], []⟩) id hb0 (.keep rfl (.keep rfl (.keep rfl (.keep rfl (.keep rfl .nil))))) (.keep rfl (.keep rfl .nil)) rfl (by rfl) ?_
          exact aq_loop (_, (IntKind.u8.wrap ((2 : Int) * z0_0)), (IntKind.i64.wrap (z0_1 - (1 : Int)))) h (Nat.lt_succ_self _)
        · replace h := ite_f hc3 h
          refine aw_exit ?_
          refine aq_then_exit ?_
          refine aq_then_exit ?_
          refine aq_block_exit ?_
          refine aq_then ?_
          refine aw_seq ?_
          refine aw_rs ?_
          refine .v (f_load (n := 0) (o := 2) (off := 0) (p := []) (c := .d (eA22 a0)) (z := .d (eA22 a0)) (by rfl) rfl ty23 (by rfl)) rfl (.c rfl .nil) (.cons rfl .nil) ?_
          refine .v (f_move (by rfl)) rfl (.c rfl .nil) .nil ?_
          obtain ⟨y4, hy5, h⟩ := bind_some h
          refine .v (f_callP hgl (by rfl) en19 rfl (by rfl) (by rfl) (by rfl) (F19_beadrollref04_At_ok hy5)) rfl (.c rfl (.c rfl .nil)) .nil ?_
          refine .v (f_binI (by rfl) rfl (by rfl)) rfl (.c rfl (.c rfl .nil)) .nil ?_
          refine .nil (aq_then ?_)
          refine aw_cond rfl (fun hc6 => ?_) (fun hc6 => ?_)
          · replace h := ite_t hc6 h
            refine aw_r ?_
            refine .v (f_move (by rfl)) rfl (.c rfl .nil) .nil ?_
            refine .v (f_binI (by rfl) (quo_ok (by decide)) (by rfl)) rfl (.c rfl (.c rfl .nil)) .nil ?_
            obtain ⟨x7, hx8, h⟩ := bind_some h
            obtain ⟨hx9, hx8⟩ := rd_some hx8
            refine .v (f_indexO (by rfl) ar23 rfl hx9 (rd_map _ hx8)) rfl (.c rfl (.c rfl .nil)) (.cons rfl .nil) ?_
            refine .v (f_load (n := 0) (o := 2) (off := (0 + ((IntKind.i64.wrap (Int.tdiv a1 (8 : Int)))).toNat * 1)) (p := [((IntKind.i64.wrap (Int.tdiv a1 (8 : Int)))).toNat]) (c := .d (eA22 a0)) (z := .d (.val (.int .u8 x7))) (by rfl) (at_map _ hx8 (by simp)) ty5 (by rfl)) rfl (.c rfl .nil) (.cons rfl .nil) ?_
            refine .v (f_move (by rfl)) rfl (.c rfl .nil) .nil ?_
            refine .v (f_binI (by rfl) rfl (by rfl)) rfl (.c rfl (.c rfl .nil)) .nil ?_
            obtain ⟨x10, hx11, h⟩ := bind_some h
            obtain ⟨hx12, hx11⟩ := rd_some hx11
            refine .v (f_indexO (by rfl) ar23 rfl hx12 (rd_map _ hx11)) rfl (.c rfl (.c rfl .nil)) (.cons rfl .nil) ?_
            refine .s (f_store (n := 0) (o := 2) (off := (0 + ((IntKind.i64.wrap (Int.tdiv a1 (8 : Int)))).toNat * 1)) (p := [((IntKind.i64.wrap (Int.tdiv a1 (8 : Int)))).toNat]) (c := .d (eA22 a0)) (old := .d (.val (.int .u8 x10))) (z := .d (.val (.int .u8 (IntKind.u8.wrap (x7 - z0_0))))) (c' := .d (eA22 (a0.set ((IntKind.i64.wrap (Int.tdiv a1 (8 : Int)))).toNat (IntKind.u8.wrap (x7 - z0_0))))) (at_map _ hx11 (by simp)) (put_map _ hx11) (by rfl) ty5 (by rfl)) rfl (.c rfl (.c rfl .nil)) (.cons rfl .nil) ?_
            refine .nil ?_
            refine aq_then ?_
            refine aw_rs ?_
            refine .v (f_load (n := 0) (o := 2) (off := 0) (p := []) (c := .d (eA22 (a0.set ((IntKind.i64.wrap (Int.tdiv a1 (8 : Int)))).toNat (IntKind.u8.wrap (x7 - z0_0))))) (z := .d (eA22 (a0.set ((IntKind.i64.wrap (Int.tdiv a1 (8 : Int)))).toNat (IntKind.u8.wrap (x7 - z0_0))))) (by rfl) rfl ty23 (by rfl)) rfl (.c rfl .nil) (.cons rfl .nil) ?_
            refine .s (f_store (n := 0) (o := 4) (off := 0) (p := []) (c := .d (eA22 (List.replicate 32 (0 : Int)))) (old := .d (eA22 (List.replicate 32 (0 : Int)))) (z := .d (eA22 (a0.set ((IntKind.i64.wrap (Int.tdiv a1 (8 : Int)))).toNat (IntKind.u8.wrap (x7 - z0_0))))) (c' := .d (eA22 (a0.set ((IntKind.i64.wrap (Int.tdiv a1 (8 : Int)))).toNat (IntKind.u8.wrap (x7 - z0_0))))) rfl rfl (by rfl) ty23 (by rfl)) rfl (.c rfl (.c rfl .nil)) (.cons rfl .nil) ?_
            refine .v (f_assign (by rfl)) rfl (.c rfl .nil) .nil ?_
            refine .nil (aq_then ?_)
            refine aw_ret ?_
            obtain rfl := Option.some.inj h
            exact aq_finp hb0 rfl (.cell rfl rfl ty23 (by rfl) (.tmp rfl (by rfl) .nil)) (by rfl) rfl ⟨rfl, rfl⟩
          · replace h := ite_f hc6 h
            refine aw_r ?_
            refine .v (f_move (by rfl)) rfl (.c rfl .nil) .nil ?_
            refine .v (f_binI (by rfl) (quo_ok (by decide)) (by rfl)) rfl (.c rfl (.c rfl .nil)) .nil ?_
            obtain ⟨x13, hx14, h⟩ := bind_some h
            obtain ⟨hx15, hx14⟩ := rd_some hx14
            refine .v (f_indexO (by rfl) ar23 rfl hx15 (rd_map _ hx14)) rfl (.c rfl (.c rfl .nil)) (.cons rfl .nil) ?_
            refine .v (f_load (n := 0) (o := 2) (off := (0 + ((IntKind.i64.wrap (Int.tdiv a1 (8 : Int)))).toNat * 1)) (p := [((IntKind.i64.wrap (Int.tdiv a1 (8 : Int)))).toNat]) (c := .d (eA22 a0)) (z := .d (.val (.int .u8 x13))) (by rfl) (at_map _ hx14 (by simp)) ty5 (by rfl)) rfl (.c rfl .nil) (.cons rfl .nil) ?_
            refine .v (f_move (by rfl)) rfl (.c rfl .nil) .nil ?_
            refine .v (f_binI (by rfl) rfl (by rfl)) rfl (.c rfl (.c rfl .nil)) .nil ?_
            obtain ⟨x16, hx17, h⟩ := bind_some h
            obtain ⟨hx18, hx17⟩ := rd_some hx17
            refine .v (f_indexO (by rfl) ar23 rfl hx18 (rd_map _ hx17)) rfl (.c rfl (.c rfl .nil)) (.cons rfl .nil) ?_
            refine .s (f_store (n := 0) (o := 2) (off := (0 + ((IntKind.i64.wrap (Int.tdiv a1 (8 : Int)))).toNat * 1)) (p := [((IntKind.i64.wrap (Int.tdiv a1 (8 : Int)))).toNat]) (c := .d (eA22 a0)) (old := .d (.val (.int .u8 x16))) (z := .d (.val (.int .u8 (IntKind.u8.wrap (x13 + z0_0))))) (c' := .d (eA22 (a0.set ((IntKind.i64.wrap (Int.tdiv a1 (8 : Int)))).toNat (IntKind.u8.wrap (x13 + z0_0))))) (at_map _ hx17 (by simp)) (put_map _ hx17) (by rfl) ty5 (by rfl)) rfl (.c rfl (.c rfl .nil)) (.cons rfl .nil) ?_
            refine .nil ?_
            refine aq_then ?_
            refine aw_rs ?_
            refine .v (f_load (n := 0) (o := 2) (off := 0) (p := []) (c := .d (eA22 (a0.set ((IntKind.i64.wrap (Int.tdiv a1 (8 : Int)))).toNat (IntKind.u8.wrap (x13 + z0_0))))) (z := .d (eA22 (a0.set ((IntKind.i64.wrap (Int.tdiv a1 (8 : Int)))).toNat (IntKind.u8.wrap (x13 + z0_0))))) (by rfl) rfl ty23 (by rfl)) rfl (.c rfl .nil) (.cons rfl .nil) ?_
            refine .s (f_store (n := 0) (o := 4) (off := 0) (p := []) (c := .d (eA22 (List.replicate 32 (0 : Int)))) (old := .d (eA22 (List.replicate 32 (0 : Int)))) (z := .d (eA22 (a0.set ((IntKind.i64.wrap (Int.tdiv a1 (8 : Int)))).toNat (IntKind.u8.wrap (x13 + z0_0))))) (c' := .d (eA22 (a0.set ((IntKind.i64.wrap (Int.tdiv a1 (8 : Int)))).toNat (IntKind.u8.wrap (x13 + z0_0))))) rfl rfl (by rfl) ty23 (by rfl)) rfl (.c rfl (.c rfl .nil)) (.cons rfl .nil) ?_
            refine .v (f_assign (by rfl)) rfl (.c rfl .nil) .nil ?_
            refine .nil (aq_then ?_)
            refine aw_ret ?_
            obtain rfl := Option.some.inj h
            exact aq_finp hb0 rfl (.cell rfl rfl ty23 (by rfl) (.tmp rfl (by rfl) .nil)) (by rfl) rfl ⟨rfl, rfl⟩

/- 14: beadroll/beadrollref04.Shared -/
def F14_beadrollref04_Shared_l0 (a0 : (List Int)) (a1 : (List Int)) : Nat → Int →  Option (Int)
  | 0, _ => none
  | n + 1, z0_0 => (if (decide (z0_0 < (256 : Int))) = true then ((F19_beadrollref04_At n a0 z0_0).bind fun (y2 : Int) => ((F19_beadrollref04_At n a1 z0_0).bind fun (y4 : Int) => (if (y2 == y4) = true then F14_beadrollref04_Shared_l0 a0 a1 n (IntKind.i64.wrap (z0_0 + (1 : Int))) else some (z0_0)))) else some (z0_0))
def F14_beadrollref04_Shared (n : Nat) (a0 : (List Int)) (a1 : (List Int)) : Option (Int) :=
  F14_beadrollref04_Shared_l0 a0 a1 n (0 : Int)
theorem F14_beadrollref04_Shared_ok {n : Nat} {a0 : (List Int)} {a1 : (List Int)} {r : Int} (h : F14_beadrollref04_Shared n a0 a1 = some r) :
    ACall Try.prog [] 14 [.d (eA22 a0), .d (eA22 a1)] [] (fun r' hp' => r' = .d (.val (.int .i64 r)) ∧ hp' = []) := by
  refine acall_of_body mixed Try.func14 rfl (by rfl) ?_
  intro C hro hgl hb0
  unfold F14_beadrollref04_Shared at h
  refine aw_rs ?_
  refine .n (f_box 2 (by rfl) (by rfl)) rfl (.c rfl .nil) rfl ?_
  refine .n (f_box 3 (by rfl) (by rfl)) rfl (.c rfl .nil) rfl ?_
  refine .v (f_assign (by rfl)) rfl (.c rfl .nil) .nil ?_
  refine .nil (aq_then ?_)
  refine aw_rs ?_
  refine .v (f_assign (by rfl)) rfl (.c rfl .nil) .nil ?_
  refine .nil (aq_then ?_)
  refine aw_seq ?_
  refine aw_block ?_
  refine aw_weak (s' := ⟨[(2, .ptr 2 0 []), (3, .ptr 3 0 []), (5, .d (.val (.int .i64 (0 : Int))))], [(2, .av (.d (eA22 a0))), (3, .av (.d (eA22 a1)))], []⟩) id hb0 (.keep rfl (.keep rfl (.keep rfl .nil))) (.keep rfl (.keep rfl .nil)) rfl (by rfl) ?_
  refine aw_loop (σ := Nat × Int) (fun z => ⟨[(2, .ptr 2 0 []), (3, .ptr 3 0 []), (5, .d (.val (.int .i64 z.2)))], [(2, .av (.d (eA22 a0))), (3, .av (.d (eA22 a1)))], []⟩) (fun z => F14_beadrollref04_Shared_l0 a0 a1 z.1 (z.2) = some r) (fun z => z.1) (n, (0 : Int)) h ?_
  clear h
  rintro ⟨n_, z0_0⟩ h
  obtain _ | n_ := n_
  · simp only [F14_beadrollref04_Shared_l0] at h; cases h
  · simp only [F14_beadrollref04_Shared_l0] at h
    show AW C _ _ ⟨[(2, .ptr 2 0 []), (3, .ptr 3 0 []), (5, .d (.val (.int .i64 z0_0)))], [(2, .av (.d (eA22 a0))), (3, .av (.d (eA22 a1)))], []⟩
    refine aw_seq ?_
    refine aw_rds ?_
    refine .v (f_move (by rfl)) rfl (.c rfl .nil) .nil ?_
    refine .v (f_binI (by rfl) rfl (by rfl)) rfl (.c rfl (.c rfl .nil)) .nil ?_
    refine .v (f_move (by rfl)) rfl (.c rfl .nil) .nil ?_
    rcases Bool.eq_false_or_eq_true (decide (z0_0 < (256 : Int))) with hc1 | hc1
    · replace h := ite_t hc1 h
      refine .gv (f_load (n := 0) (o := 2) (off := 0) (p := []) (c := .d (eA22 a0)) (z := .d (eA22 a0)) (by rfl) rfl ty23 (by rfl)) rfl rfl rfl hc1 (.c rfl .nil) (.cons rfl .nil) ?_
      refine .gv (f_move (by rfl)) rfl rfl rfl hc1 (.c rfl .nil) .nil ?_
      obtain ⟨y2, hy3, h⟩ := bind_some h
      refine .gv (f_callP hgl (by rfl) en19 rfl (by rfl) (by rfl) (by rfl) (F19_beadrollref04_At_ok hy3)) rfl rfl rfl hc1 (.c rfl (.c rfl .nil)) .nil ?_
      refine .gv (f_load (n := 0) (o := 3) (off := 0) (p := []) (c := .d (eA22 a1)) (z := .d (eA22 a1)) (by rfl) rfl ty23 (by rfl)) rfl rfl rfl hc1 (.c rfl .nil) (.cons rfl .nil) ?_
      refine .gv (f_move (by rfl)) rfl rfl rfl hc1 (.c rfl .nil) .nil ?_
      obtain ⟨y4, hy5, h⟩ := bind_some h
      refine .gv (f_callP hgl (by rfl) en19 rfl (by rfl) (by rfl) (by rfl) (F19_beadrollref04_At_ok hy5)) rfl rfl rfl hc1 (.c rfl (.c rfl .nil)) .nil ?_
      refine .gv (f_binI (by rfl) rfl (by rfl)) rfl rfl rfl hc1 (.c rfl (.c rfl .nil)) .nil ?_
      refine .v (f_pick_true (by rfl) hc1) rfl (.c rfl (.c rfl .nil)) .nil ?_
      refine .nil (by kernel_rfl) ?_
      refine aw_cond rfl (fun hc6 => ?_) (fun hc6 => ?_)
      · replace h := ite_t hc6 h
        refine aw_skip ?_
        refine aq_then ?_
        refine aw_block ?_
        refine aw_r ?_
        refine .v (f_move (by rfl)) rfl (.c rfl .nil) .nil ?_
        refine .v (f_binI (by rfl) rfl (by rfl)) rfl (.c rfl (.c rfl .nil)) .nil ?_
        refine .v (f_assign (by rfl)) rfl (.c rfl .nil) .nil ?_
        refine .nil ?_
        refine aq_block ?_
        refine aq_weak (s' := ⟨[(2, .ptr 2 0 []), (3, .ptr 3 0 []), (5, .d (.val (.int .i64 (IntKind.i64.wrap (z0_0 + (1 : Int))))))], [(2, .av (.d (eA22 a0))), (3, .av (.d (eA22 a1)))], []⟩) id hb0 (.keep rfl (.keep rfl (.keep rfl .nil))) (.keep rfl (.keep rfl .nil)) rfl (by rfl) ?_
        exact aq_loop (_, (IntKind.i64.wrap (z0_0 + (1 : Int)))) h (Nat.lt_succ_self _)
      · replace h := ite_f hc6 h
        refine aw_exit ?_
        refine aq_then_exit ?_
        refine aq_then_exit ?_
        refine aq_block_exit ?_
        refine aq_then ?_
        refine aw_rs ?_
        refine .v (f_move (by rfl)) rfl (.c rfl .nil) .nil ?_
        refine .v (f_assign (by rfl)) rfl (.c rfl .nil) .nil ?_
        refine .nil (aq_then ?_)
        refine aw_ret ?_
        obtain rfl := Option.some.inj h
        exact aq_finp hb0 rfl (.tmp rfl (by rfl) .nil) (by rfl) rfl ⟨rfl, rfl⟩
    · replace h := ite_f hc1 h
      refine .off rfl rfl rfl hc1 rfl (by rfl) ?_
      refine .off rfl rfl rfl hc1 rfl (by rfl) ?_
      refine .off rfl rfl rfl hc1 rfl (by rfl) ?_
      refine .off rfl rfl rfl hc1 rfl (by rfl) ?_
      refine .off rfl rfl rfl hc1 rfl (by rfl) ?_
      refine .off rfl rfl rfl hc1 rfl (by rfl) ?_
      refine .off rfl rfl rfl hc1 rfl (by rfl) ?_
      refine .v (f_pick_false (by rfl) hc1) rfl (.c rfl (.c rfl .nil)) .nil ?_
      refine .nil (by kernel_rfl) ?_
      refine aw_cond rfl (fun hx => absurd (hx.symm.trans rfl) (by simp)) (fun _ => ?_)
      refine aw_exit ?_
      refine aq_then_exit ?_
      refine aq_then_exit ?_
      refine aq_block_exit ?_
      refine aq_then ?_
      refine aw_rs ?_
      refine .v (f_move (by rfl)) rfl (.c rfl .nil) .nil ?_
      refine .v (f_assign (by rfl)) rfl (.c rfl .nil) .nil ?_
      refine .nil (aq_then ?_)
      refine aw_ret ?_
      obtain rfl := Option.some.inj h
      exact aq_finp hb0 rfl (.tmp rfl (by rfl) .nil) (by rfl) rfl ⟨rfl, rfl⟩

/- 15: beadroll/beadrollref04.Ahead -/
def F15_beadrollref04_Ahead (n : Nat) (a0 : (List Int)) (a1 : (List Int)) : Option (Bool) :=
  ((F14_beadrollref04_Shared n a0 a1).bind fun (y1 : Int) => (if (decide (y1 < (256 : Int))) = true then ((F19_beadrollref04_At n a0 y1).bind fun (y4 : Int) => ((F19_beadrollref04_At n a1 y1).bind fun (y6 : Int) => some ((decide (y4 < y6))))) else some (false)))
theorem F15_beadrollref04_Ahead_ok {n : Nat} {a0 : (List Int)} {a1 : (List Int)} {r : Bool} (h : F15_beadrollref04_Ahead n a0 a1 = some r) :
    ACall Try.prog [] 15 [.d (eA22 a0), .d (eA22 a1)] [] (fun r' hp' => r' = .d (.val (.bool r)) ∧ hp' = []) := by
  refine acall_of_body mixed Try.func15 rfl (by rfl) ?_
  intro C hro hgl hb0
  unfold F15_beadrollref04_Ahead at h
  refine aw_rs ?_
  refine .n (f_box 2 (by rfl) (by rfl)) rfl (.c rfl .nil) rfl ?_
  refine .n (f_box 3 (by rfl) (by rfl)) rfl (.c rfl .nil) rfl ?_
  refine .v (f_assign (by rfl)) rfl (.c rfl .nil) .nil ?_
  refine .nil (aq_then ?_)
  refine aw_rs ?_
  refine .v (f_load (n := 0) (o := 2) (off := 0) (p := []) (c := .d (eA22 a0)) (z := .d (eA22 a0)) (by rfl) rfl ty23 (by rfl)) rfl (.c rfl .nil) (.cons rfl .nil) ?_
  refine .v (f_load (n := 0) (o := 3) (off := 0) (p := []) (c := .d (eA22 a1)) (z := .d (eA22 a1)) (by rfl) rfl ty23 (by rfl)) rfl (.c rfl .nil) (.cons rfl .nil) ?_
  obtain ⟨y1, hy2, h⟩ := bind_some h
  refine .v (f_callP hgl (by rfl) en14 rfl (by rfl) (by rfl) (by rfl) (F14_beadrollref04_Shared_ok hy2)) rfl (.c rfl (.c rfl .nil)) .nil ?_
  refine .v (f_assign (by rfl)) rfl (.c rfl .nil) .nil ?_
  refine .nil (aq_then ?_)
  refine aw_rds ?_
  refine .v (f_move (by rfl)) rfl (.c rfl .nil) .nil ?_
  refine .v (f_binI (by rfl) rfl (by rfl)) rfl (.c rfl (.c rfl .nil)) .nil ?_
  refine .v (f_move (by rfl)) rfl (.c rfl .nil) .nil ?_
  rcases Bool.eq_false_or_eq_true (decide (y1 < (256 : Int))) with hc3 | hc3
  · replace h := ite_t hc3 h
    refine .gv (f_load (n := 0) (o := 2) (off := 0) (p := []) (c := .d (eA22 a0)) (z := .d (eA22 a0)) (by rfl) rfl ty23 (by rfl)) rfl rfl rfl hc3 (.c rfl .nil) (.cons rfl .nil) ?_
    refine .gv (f_move (by rfl)) rfl rfl rfl hc3 (.c rfl .nil) .nil ?_
    obtain ⟨y4, hy5, h⟩ := bind_some h
    refine .gv (f_callP hgl (by rfl) en19 rfl (by rfl) (by rfl) (by rfl) (F19_beadrollref04_At_ok hy5)) rfl rfl rfl hc3 (.c rfl (.c rfl .nil)) .nil ?_
    refine .gv (f_load (n := 0) (o := 3) (off := 0) (p := []) (c := .d (eA22 a1)) (z := .d (eA22 a1)) (by rfl) rfl ty23 (by rfl)) rfl rfl rfl hc3 (.c rfl .nil) (.cons rfl .nil) ?_
    refine .gv (f_move (by rfl)) rfl rfl rfl hc3 (.c rfl .nil) .nil ?_
    obtain ⟨y6, hy7, h⟩ := bind_some h
    refine .gv (f_callP hgl (by rfl) en19 rfl (by rfl) (by rfl) (by rfl) (F19_beadrollref04_At_ok hy7)) rfl rfl rfl hc3 (.c rfl (.c rfl .nil)) .nil ?_
    refine .gv (f_binI (by rfl) rfl (by rfl)) rfl rfl rfl hc3 (.c rfl (.c rfl .nil)) .nil ?_
    refine .v (f_pick_true (by rfl) hc3) rfl (.c rfl (.c rfl .nil)) .nil ?_
    refine .v (f_assign (by rfl)) rfl (.c rfl .nil) .nil ?_
    refine .nil (by kernel_rfl) ?_
    refine aw_ret ?_
    obtain rfl := Option.some.inj h
    exact aq_finp hb0 rfl (.tmp rfl (by rfl) .nil) (by rfl) rfl ⟨rfl, rfl⟩
  · replace h := ite_f hc3 h
    refine .off rfl rfl rfl hc3 rfl (by rfl) ?_
    refine .off rfl rfl rfl hc3 rfl (by rfl) ?_
    refine .off rfl rfl rfl hc3 rfl (by rfl) ?_
    refine .off rfl rfl rfl hc3 rfl (by rfl) ?_
    refine .off rfl rfl rfl hc3 rfl (by rfl) ?_
    refine .off rfl rfl rfl hc3 rfl (by rfl) ?_
    refine .off rfl rfl rfl hc3 rfl (by rfl) ?_
    refine .v (f_pick_false (by rfl) hc3) rfl (.c rfl (.c rfl .nil)) .nil ?_
    refine .v (f_assign (by rfl)) rfl (.c rfl .nil) .nil ?_
    refine .nil (by kernel_rfl) ?_
    refine aw_ret ?_
    obtain rfl := Option.some.inj h
    exact aq_finp hb0 rfl (.tmp rfl (by rfl) .nil) (by rfl) rfl ⟨rfl, rfl⟩

/- 21: math/bits.Len8 -/
def F21_bits_Len8 (n : Nat) (a0 : Int) : Option (Int) :=
  ((sRd str0 a0).bind fun (x1 : UInt8) => some ((IntKind.i64.wrap (x1.toNat : Int))))
theorem F21_bits_Len8_ok {n : Nat} {a0 : Int} {r : Int} (h : F21_bits_Len8 n a0 = some r) :
    ACall Try.prog [] 21 [.d (.val (.int .u8 a0))] [] (fun r' hp' => r' = .d (.val (.int .i64 r)) ∧ hp' = []) := by
  refine acall_of_body mixed Try.func21 rfl (by rfl) ?_
  intro C hro hgl hb0
  unfold F21_bits_Len8 at h
  refine aw_rs ?_
  refine .v (f_assign (by rfl)) rfl (.c rfl .nil) .nil ?_
  refine .nil (aq_then ?_)
  refine aw_rs ?_
  refine .v (f_move (by rfl)) rfl (.c rfl .nil) .nil ?_
  obtain ⟨x1, hx2, h⟩ := bind_some h
  obtain ⟨hx3, hx2⟩ := sRd_some hx2
  refine .v (f_indexStr (by rfl) un9 hx3 hx2) rfl (.c rfl (.c rfl .nil)) .nil ?_
  refine .v (f_convI (by rfl) un5 un3) rfl (.c rfl .nil) .nil ?_
  refine .v (f_assign (by rfl)) rfl (.c rfl .nil) .nil ?_
  refine .nil (aq_then ?_)
  refine aw_ret ?_
  obtain rfl := Option.some.inj h
  exact aq_finp hb0 rfl (.tmp rfl (by rfl) .nil) (by rfl) rfl ⟨rfl, rfl⟩

/- 18: math/bits.LeadingZeros8 -/
def F18_bits_LeadingZeros8 (n : Nat) (a0 : Int) : Option (Int) :=
  ((F21_bits_Len8 n a0).bind fun (y1 : Int) => some ((IntKind.i64.wrap ((8 : Int) - y1))))
theorem F18_bits_LeadingZeros8_ok {n : Nat} {a0 : Int} {r : Int} (h : F18_bits_LeadingZeros8 n a0 = some r) :
    ACall Try.prog [] 18 [.d (.val (.int .u8 a0))] [] (fun r' hp' => r' = .d (.val (.int .i64 r)) ∧ hp' = []) := by
  refine acall_of_body mixed Try.func18 rfl (by rfl) ?_
  intro C hro hgl hb0
  unfold F18_bits_LeadingZeros8 at h
  refine aw_rs ?_
  refine .v (f_assign (by rfl)) rfl (.c rfl .nil) .nil ?_
  refine .nil (aq_then ?_)
  refine aw_rs ?_
  refine .v (f_move (by rfl)) rfl (.c rfl .nil) .nil ?_
  obtain ⟨y1, hy2, h⟩ := bind_some h
  refine .v (f_callP hgl (by rfl) en21 rfl (by rfl) (by rfl) (by rfl) (F21_bits_Len8_ok hy2)) rfl (.c rfl .nil) .nil ?_
  refine .v (f_binI (by rfl) rfl (by rfl)) rfl (.c rfl (.c rfl .nil)) .nil ?_
  refine .v (f_assign (by rfl)) rfl (.c rfl .nil) .nil ?_
  refine .nil (aq_then ?_)
  refine aw_ret ?_
  obtain rfl := Option.some.inj h
  exact aq_finp hb0 rfl (.tmp rfl (by rfl) .nil) (by rfl) rfl ⟨rfl, rfl⟩

/- 16: beadroll/beadrolllaw04.bit -/
def F16_beadrolllaw04_bit (n : Nat) (a0 : (List Int)) (a1 : Int) (a2 : Int) : Option (Bool) :=
  ((F10_path_Bit n a0 a1).bind fun (y1 : Int × Int) => (if (y1.2 == (0 : Int)) = true then some ((y1.1 == a2)) else some (false)))
theorem F16_beadrolllaw04_bit_ok {n : Nat} {a0 : (List Int)} {a1 : Int} {a2 : Int} {r : Bool} (h : F16_beadrolllaw04_bit n a0 a1 a2 = some r) :
    ACall Try.prog [] 16 [.d (eA22 a0), .d (.val (.int .i64 a1)), .d (.val (.int .u8 a2))] [] (fun r' hp' => r' = .d (.val (.bool r)) ∧ hp' = []) := by
  refine acall_of_body mixed Try.func16 rfl (by rfl) ?_
  intro C hro hgl hb0
  unfold F16_beadrolllaw04_bit at h
  refine aw_rs ?_
  refine .n (f_box 3 (by rfl) (by rfl)) rfl (.c rfl .nil) rfl ?_
  refine .v (f_assign (by rfl)) rfl (.c rfl .nil) .nil ?_
  refine .nil (aq_then ?_)
  refine aw_rs ?_
  refine .v (f_load (n := 0) (o := 3) (off := 0) (p := []) (c := .d (eA22 a0)) (z := .d (eA22 a0)) (by rfl) rfl ty23 (by rfl)) rfl (.c rfl .nil) (.cons rfl .nil) ?_
  refine .v (f_move (by rfl)) rfl (.c rfl .nil) .nil ?_
  obtain ⟨y1, hy2, h⟩ := bind_some h
  refine .v (f_callP hgl (by rfl) en10 rfl (by rfl) (by rfl) (by rfl) (F10_path_Bit_ok hy2)) rfl (.c rfl (.c rfl .nil)) .nil ?_
  refine .v (f_move (by rfl)) rfl (.c rfl .nil) .nil ?_
  refine .v (f_extract (by rfl) rfl) rfl (.c rfl .nil) .nil ?_
  refine .v (f_extract (by rfl) rfl) rfl (.c rfl .nil) .nil ?_
  refine .v (f_assign (by rfl)) rfl (.c rfl .nil) .nil ?_
  refine .v (f_assign (by rfl)) rfl (.c rfl .nil) .nil ?_
  refine .nil (aq_then ?_)
  refine aw_rs ?_
  refine .v (f_move (by rfl)) rfl (.c rfl .nil) .nil ?_
  refine .v (f_binI (by rfl) rfl (by rfl)) rfl (.c rfl (.c rfl .nil)) .nil ?_
  refine .v (f_move (by rfl)) rfl (.c rfl .nil) .nil ?_
  rcases Bool.eq_false_or_eq_true (y1.2 == (0 : Int)) with hc3 | hc3
  · replace h := ite_t hc3 h
    refine .gv (f_move (by rfl)) rfl rfl rfl hc3 (.c rfl .nil) .nil ?_
    refine .gv (f_move (by rfl)) rfl rfl rfl hc3 (.c rfl .nil) .nil ?_
    refine .gv (f_binI (by rfl) rfl (by rfl)) rfl rfl rfl hc3 (.c rfl (.c rfl .nil)) .nil ?_
    refine .v (f_pick_true (by rfl) hc3) rfl (.c rfl (.c rfl .nil)) .nil ?_
    refine .v (f_assign (by rfl)) rfl (.c rfl .nil) .nil ?_
    refine .nil (aq_then ?_)
    refine aw_ret ?_
    obtain rfl := Option.some.inj h
    exact aq_finp hb0 rfl (.tmp rfl (by rfl) .nil) (by rfl) rfl ⟨rfl, rfl⟩
  · replace h := ite_f hc3 h
    refine .off rfl rfl rfl hc3 rfl (by rfl) ?_
    refine .off rfl rfl rfl hc3 rfl (by rfl) ?_
    refine .off rfl rfl rfl hc3 rfl (by rfl) ?_
    refine .v (f_pick_false (by rfl) hc3) rfl (.c rfl (.c rfl .nil)) .nil ?_
    refine .v (f_assign (by rfl)) rfl (.c rfl .nil) .nil ?_
    refine .nil (aq_then ?_)
    refine aw_ret ?_
    obtain rfl := Option.some.inj h
    exact aq_finp hb0 rfl (.tmp rfl (by rfl) .nil) (by rfl) rfl ⟨rfl, rfl⟩
end Go.Proofs.Ytkhfhljfplflbaa
