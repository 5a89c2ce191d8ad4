/-
  PRINTED by wip/pr3.py: for each Go function a Lean function with the same answers, and the proof.
-/
import Derived.Test.YtonfljoibcnlgaaDoorXh
namespace Go.Proofs.YtonfljoibcnlgaaDoor
open Bd
set_option maxRecDepth 10000


theorem en76 : enterB Tryd.prog 76 = true := by kernel_rfl
theorem en20 : enterB Tryd.prog 20 = true := by kernel_rfl
theorem en17 : enterB Tryd.prog 17 = true := by kernel_rfl
theorem en35 : enterB Tryd.prog 35 = true := by kernel_rfl
theorem en16 : enterB Tryd.prog 16 = true := by kernel_rfl
theorem en19 : enterB Tryd.prog 19 = true := by kernel_rfl
theorem en15 : enterB Tryd.prog 15 = true := by kernel_rfl

/- 17: beadroll/queue.Past -/
def F17_queue_Past (n : Nat) (a0 : GLine) (a1 : Int) : Option (GLine × (List GTx) × Int) :=
  ((F18_queue_Check n a0).bind fun (y1 : Int) => (if (y1 != (0 : Int)) = true then some ((⟨(List.replicate 32 (0 : Int)), []⟩ : GLine), [], y1) else ((F74_queue_nonces n a0).bind fun (y4 : (List GTx)) => ((F75_api_Tx_ahead_844 n y4 a1).bind fun (y6 : Int) => (if 0 ≤ y6 ∧ y6 ≤ ((a0.Txs).length : Int) ∧ ((a0.Txs).length : Int) ≤ ((a0.Txs).length : Int) then ((F76_Clone n ((a0.Txs).drop (y6).toNat)).bind fun (y9 : List GTx) => (if 0 ≤ (0 : Int) ∧ (0 : Int) ≤ y6 ∧ y6 ≤ ((a0.Txs).length : Int) then ((F76_Clone n ((a0.Txs).take (y6).toNat)).bind fun (y12 : List GTx) => some ((⟨a0.From, y9⟩ : GLine), y12, (0 : Int))) else none)) else none)))))
theorem F17_queue_Past_ok {n : Nat} {a0 : GLine} {a1 : Int} {r : GLine × (List GTx) × Int} (h : F17_queue_Past n a0 a1 = some r) :
    ACall Tryd.prog GS 17 [.d (eGLine a0), .d (.val (.int .u64 a1))] [] (fun r' hp' => r' = .res [.d (eGLine r.1), .d (eL24 r.2.1), .d (.val (.int .i64 r.2.2))] ∧ hp' = []) := by
 refine acall_of_body mixed Tryd.func17 rfl (by rfl) ?_
 intro C hro hgl hb0
 unfold F17_queue_Past at h
 refine aw_rs ?_
 refine .n (f_box 2 (by rfl) (by rfl)) rfl (.c rfl .nil) rfl ?_
 refine .n (f_alloc 4 (by rfl) zrv26) rfl .nil rfl ?_
 refine .as rfl (by rfl) ?_
 refine .as rfl (by rfl) ?_
 refine .nil (aq_then ?_)
 refine aw_seq ?_
 refine aw_rs ?_
 refine .v (f_load (n := 0) (o := 2) (off := 0) (p := []) (c := .d (eGLine a0)) (z := .d (eGLine a0)) (by rfl) rfl ty26 (by rfl)) rfl (.c rfl .nil) (.cons rfl .nil) ?_
 obtain ⟨y1, hy2, h⟩ := bind_some h
 refine .v (f_callP hgl (by rfl) en18 rfl (by rfl) (by rfl) (by rfl) (F18_queue_Check_ok hy2)) rfl (.c rfl .nil) .nil ?_
 refine .as rfl (by rfl) ?_
 refine .nil (aq_then ?_)
 refine aw_rs ?_
 refine .mv rfl (by rfl) ?_
 refine .v (f_binI (by rfl) rfl (by rfl)) rfl (.c rfl (.c rfl .nil)) .nil ?_
 refine .nil (aq_then ?_)
 refine aw_cond rfl (fun hc3 => ?_) (fun hc3 => ?_)
 · replace h := ite_t hc3 h
   refine aw_rs ?_
   refine .v (f_load (n := 0) (o := 4) (off := 0) (p := []) (c := .st [.d (eA22 (List.replicate 32 (0 : Int))), .d (.val (.slice none 0 0))]) (z := .st [.d (eA22 (List.replicate 32 (0 : Int))), .d (.val (.slice none 0 0))]) (by rfl) rfl ty26 (by rfl)) rfl (.c rfl .nil) (.cons rfl .nil) ?_
   refine .mv rfl (by rfl) ?_
   refine .s (f_store (n := 0) (o := 4) (off := 0) (p := []) (c := .st [.d (eA22 (List.replicate 32 (0 : Int))), .d (.val (.slice none 0 0))]) (old := .st [.d (eA22 (List.replicate 32 (0 : Int))), .d (.val (.slice none 0 0))]) (z := .st [.d (eA22 (List.replicate 32 (0 : Int))), .d (.val (.slice none 0 0))]) (c' := .st [.d (eA22 (List.replicate 32 (0 : Int))), .d (.val (.slice none 0 0))]) rfl rfl (by rfl) ty26 (by rfl)) rfl (.c rfl (.c rfl .nil)) (.cons rfl .nil) ?_
   refine .as rfl (by rfl) ?_
   refine .as rfl (by rfl) ?_
   refine .nil (aq_then ?_)
   refine aw_ret ?_
   refine aq_then_ret ?_
   obtain rfl := Option.some.inj h
   refine aq_freezeH [] [(4, .ptr 4 0 []), (5, .d (eL24 ([]))), (6, .d (.val (.int .i64 y1)))] [(4, .av (.d (eGLine (⟨(List.replicate 32 (0 : Int)), []⟩ : GLine))))] .nil (.keep rfl (.cons rfl .nil (.keep rfl .nil))) (.cons rfl (by rfl) (.st (.cons (.same _) (.cons .nil .nil))) .nil) ?_
   exact aq_finp hb0 rfl (.cell rfl rfl ty26 (by rfl) (.tmp rfl (by rfl) (.tmp rfl (by rfl) .nil))) (by rfl) rfl ⟨rfl, rfl⟩
 replace h := ite_f hc3 h
 refine aw_skip ?_
 refine aq_then ?_
 refine aw_rs ?_
 refine .v (f_load (n := 0) (o := 2) (off := 0) (p := []) (c := .d (eGLine a0)) (z := .d (eGLine a0)) (by rfl) rfl ty26 (by rfl)) rfl (.c rfl .nil) (.cons rfl .nil) ?_
 obtain ⟨y4, hy5, h⟩ := bind_some h
 refine .w (f_callG (xs := [.d (eGLine a0)]) (r := .st [.d (eL24 y4), .fn (.func 111) [] []]) (hw := [(1061, .av (.st [.d (eL24 y4), .fn (.func 111) [] []]))]) (fun i => bif Nat.beq i 2 then 1061 else i) [] hgl (by rfl) (cal_f en74) rfl (by rfl) (by rfl) (by rfl) (by rfl) (.cons (.same _) .nil) rfl rfl rfl rfl (F74_queue_nonces_ok hy5)) rfl (.c rfl .nil) .nil (.cons rfl .nil) ?_
 refine .mv rfl (by rfl) ?_
 obtain ⟨y6, hy7, h⟩ := bind_some h
 refine .w (f_callG0 (xs := [.st [.d (eL24 y4), .fn (.func 111) [] []], .d (.val (.int .u64 a1))]) (r := .d (.val (.int .i64 y6))) (fun i => i) [] hgl (by rfl) (cal_f en75) rfl (by rfl) (by rfl) (by rfl) (by rfl) (.cons (.same _) (.cons (.same _) .nil)) rfl rfl (F75_api_Tx_ahead_844_ok hy7)) rfl (.c rfl (.c rfl .nil)) .nil .nil ?_
 refine .as rfl (by rfl) ?_
 refine .nil (aq_then ?_)
 refine aw_rds ?_
 refine .v (f_fieldAddr (n := 0) (by rfl) fl26_0 (by decide)) rfl (.c rfl .nil) .nil ?_
 refine .v (f_load (n := 0) (o := 2) (off := (0 + 0)) (p := [0]) (c := .d (eGLine a0)) (z := .d (eA22 a0.From)) (by rfl) rfl ty23 (by rfl)) rfl (.c rfl .nil) (.cons rfl .nil) ?_
 refine .v (f_fieldAddr (n := 32) (by rfl) fl26_1 (by decide)) rfl (.c rfl .nil) .nil ?_
 refine .v (f_load (n := 0) (o := 2) (off := (0 + 32)) (p := [1]) (c := .d (eGLine a0)) (z := .d (eL24 a0.Txs)) (by rfl) rfl ty24 (by rfl)) rfl (.c rfl .nil) (.cons rfl .nil) ?_
 refine .v (f_move (by rfl)) rfl (.c rfl .nil) .nil ?_
 obtain ⟨hb8, h⟩ := ifp h
 refine .v (f_sliceD (k1 := .i64) (k2 := .i64) (i := y6) (j := ((a0.Txs).length : Int)) (xs := (a0.Txs).map eGTx) (zs := ((a0.Txs).drop (y6).toNat).map eGTx) (by rfl) sl24 (by intro hx; first | rfl | cases hx) (by intro hx; first | (simp; done) | cases hx) hb8.1 hb8.2.1 (by rw [List.length_map]; exact hb8.2.2) (by simp [List.map_take, List.map_drop, List.take_of_length_le])) rfl (.c rfl (.c rfl .nil)) .nil ?_
 obtain ⟨y9, hy10, h⟩ := bind_some h
 refine .w (f_callG (xs := [.d (eL24 ((a0.Txs).drop (y6).toNat))]) (r := .slc 1062 0 ((y9).length) 99) (hw := [(1062, .av (.d (.arr 99 ((y9).length) ((y9).map eGTx))))]) (fun i => bif Nat.beq i 0 then 1062 else i) [] hgl (by rfl) (cal_f en76) rfl (by rfl) (by rfl) (by rfl) (by rfl) (.cons (.same _) .nil) rfl rfl rfl rfl (F76_Clone_ok hy10)) rfl (.c rfl .nil) .nil (.cons rfl .nil) ?_
 refine .v (f_build (xs := [(0, .d (eA22 a0.From)), (1, .slc 1062 0 ((y9).length) 99)]) (z' := .st [.d (eA22 a0.From), .slc 1062 0 ((y9).length) 99]) (by rfl) zrv26 ag26 rfl (by rfl) ⟨_, _, _, rfl, pl26_0, rfl, rfl, ⟨_, _, _, rfl, pl26_1, rfl, rfl, trivial⟩⟩ (by rfl) (by rfl)) rfl (.c rfl (.c rfl .nil)) .nil ?_
 refine .v (f_fieldAddr (n := 32) (by rfl) fl26_1 (by decide)) rfl (.c rfl .nil) .nil ?_
 refine .v (f_load (n := 0) (o := 2) (off := (0 + 32)) (p := [1]) (c := .d (eGLine a0)) (z := .d (eL24 a0.Txs)) (by rfl) rfl ty24 (by rfl)) rfl (.c rfl .nil) (.cons rfl .nil) ?_
 refine .v (f_move (by rfl)) rfl (.c rfl .nil) .nil ?_
 obtain ⟨hb11, h⟩ := ifp h
 refine .v (f_sliceD (k1 := .i64) (k2 := .i64) (i := (0 : Int)) (j := y6) (xs := (a0.Txs).map eGTx) (zs := ((a0.Txs).take (y6).toNat).map eGTx) (by rfl) sl24 (by intro hx; first | rfl | cases hx) (by intro hx; first | (simp; done) | cases hx) hb11.1 hb11.2.1 (by rw [List.length_map]; exact hb11.2.2) (by simp [List.map_take, List.map_drop, List.take_of_length_le])) rfl (.c rfl (.c rfl .nil)) .nil ?_
 obtain ⟨y12, hy13, h⟩ := bind_some h
 refine .w (f_callG (xs := [.d (eL24 ((a0.Txs).take (y6).toNat))]) (r := .slc 1063 0 ((y12).length) 99) (hw := [(1063, .av (.d (.arr 99 ((y12).length) ((y12).map eGTx))))]) (fun i => bif Nat.beq i 0 then 1063 else i) [] hgl (by rfl) (cal_f en76) rfl (by rfl) (by rfl) (by rfl) (by rfl) (.cons (.same _) .nil) rfl rfl rfl rfl (F76_Clone_ok hy13)) rfl (.c rfl .nil) .nil (.cons rfl .nil) ?_
 refine .s (f_store (n := 0) (o := 4) (off := 0) (p := []) (c := .st [.d (eA22 (List.replicate 32 (0 : Int))), .d (.val (.slice none 0 0))]) (old := .st [.d (eA22 (List.replicate 32 (0 : Int))), .d (.val (.slice none 0 0))]) (z := .st [.d (eA22 a0.From), .slc 1062 0 ((y9).length) 99]) (c' := .st [.d (eA22 a0.From), .slc 1062 0 ((y9).length) 99]) rfl rfl (by rfl) ty26 (by rfl)) rfl (.c rfl (.c rfl .nil)) (.cons rfl .nil) ?_
 refine .v (f_assign (by rfl)) rfl (.c rfl .nil) .nil ?_
 refine .v (f_assign (by rfl)) rfl (.c rfl .nil) .nil ?_
 refine .nil (by kernel_rfl) ?_
 refine aw_ret ?_
 obtain rfl := Option.some.inj h
 refine aq_freezeH [(1063, (.arr 99 ((y12).length) ((y12).map eGTx))), (1062, (.arr 99 ((y9).length) ((y9).map eGTx)))] [(4, .ptr 4 0 []), (5, .d (eL24 y12)), (6, .d (.val (.int .i64 (0 : Int))))] [(4, .av (.d (eGLine (⟨a0.From, y9⟩ : GLine))))] (.cons rfl (.cons rfl .nil)) (.keep rfl (.cons rfl (.whole (.head _)) (.keep rfl .nil))) (.cons rfl (by rfl) (.st (.cons (.same _) (.cons (.whole (.tail _ (.head _))) .nil))) .nil) ?_
 exact aq_finp hb0 rfl (.cell rfl rfl ty26 (by rfl) (.tmp rfl (by rfl) (.tmp rfl (by rfl) .nil))) (by rfl) rfl ⟨rfl, rfl⟩

/- 15: beadroll/beadrolllaw19.alive -/
def F15_beadrolllaw19_alive (n : Nat)  : Option (Bool) :=
  ((F35_beadrolllaw19_line n ).bind fun (y1 : GLine) => ((F16_queue_Ready n y1 (3 : Int)).bind fun (y3 : (List GTx) × Int) => ((F35_beadrolllaw19_line n ).bind fun (y5 : GLine) => ((F16_queue_Ready n y5 (5 : Int)).bind fun (y7 : (List GTx) × Int) => ((F35_beadrolllaw19_line n ).bind fun (y9 : GLine) => ((F17_queue_Past n y9 (4 : Int)).bind fun (y11 : GLine × (List GTx) × Int) => (((if (y3.2 == (0 : Int)) = true then ((F36_beadrolllaw19_one n (3 : Int) (1 : Int)).bind fun (y14 : GTx) => ((F36_beadrolllaw19_one n (4 : Int) (1 : Int)).bind fun (y16 : GTx) => ((F20_beadrollref19_SameTxs n y3.1 ([y14, y16] : List GTx)).bind fun (y18 : Bool) => (if y18 = true then (if (y7.2 == (0 : Int)) = true then (if (((y7.1).length : Int) == (0 : Int)) = true then (if (y11.2.2 == (0 : Int)) = true then (if (((y11.1.Txs).length : Int) == (2 : Int)) = true then ((F36_beadrolllaw19_one n (3 : Int) (1 : Int)).bind fun (y25 : GTx) => ((F20_beadrollref19_SameTxs n y11.2.1 ([y25] : List GTx)).bind fun (y27 : Bool) => some y27)) else some false) else some false) else some false) else some false) else some false)))) else some false)).bind fun (o29 : Bool) => some o29)))))))
theorem F15_beadrolllaw19_alive_ok {n : Nat}  {r : Bool} (h : F15_beadrolllaw19_alive n  = some r) :
    ACall Tryd.prog GS 15 [] [] (fun r' hp' => r' = .d (.val (.bool r)) ∧ hp' = []) := by
 refine acall_of_body mixed Tryd.func15 rfl (by rfl) ?_
 intro C hro hgl hb0
 unfold F15_beadrolllaw19_alive at h
 refine aw_rs ?_
 refine .as rfl (by rfl) ?_
 refine .nil (aq_then ?_)
 refine aw_rs ?_
 obtain ⟨y1, hy2, h⟩ := bind_some h
 refine .v (f_callP hgl (by rfl) en35 rfl (by rfl) (by rfl) (by rfl) (F35_beadrolllaw19_line_ok hy2)) rfl .nil .nil ?_
 obtain ⟨y3, hy4, h⟩ := bind_some h
 refine .v (f_callP hgl (by rfl) en16 rfl (by rfl) (by rfl) (by rfl) (F16_queue_Ready_ok hy4)) rfl (.c rfl (.c rfl .nil)) .nil ?_
 refine .mv rfl (by rfl) ?_
 refine .v (f_extract (by rfl) rfl) rfl (.c rfl .nil) .nil ?_
 refine .v (f_extract (by rfl) rfl) rfl (.c rfl .nil) .nil ?_
 refine .as rfl (by rfl) ?_
 refine .as rfl (by rfl) ?_
 refine .nil (aq_then ?_)
 refine aw_rs ?_
 obtain ⟨y5, hy6, h⟩ := bind_some h
 refine .v (f_callP hgl (by rfl) en35 rfl (by rfl) (by rfl) (by rfl) (F35_beadrolllaw19_line_ok hy6)) rfl .nil .nil ?_
 obtain ⟨y7, hy8, h⟩ := bind_some h
 refine .v (f_callP hgl (by rfl) en16 rfl (by rfl) (by rfl) (by rfl) (F16_queue_Ready_ok hy8)) rfl (.c rfl (.c rfl .nil)) .nil ?_
 refine .mv rfl (by rfl) ?_
 refine .v (f_extract (by rfl) rfl) rfl (.c rfl .nil) .nil ?_
 refine .v (f_extract (by rfl) rfl) rfl (.c rfl .nil) .nil ?_
 refine .as rfl (by rfl) ?_
 refine .as rfl (by rfl) ?_
 refine .nil (aq_then ?_)
 refine aw_rs ?_
 obtain ⟨y9, hy10, h⟩ := bind_some h
 refine .v (f_callP hgl (by rfl) en35 rfl (by rfl) (by rfl) (by rfl) (F35_beadrolllaw19_line_ok hy10)) rfl .nil .nil ?_
 obtain ⟨y11, hy12, h⟩ := bind_some h
 refine .v (f_callP hgl (by rfl) en17 rfl (by rfl) (by rfl) (by rfl) (F17_queue_Past_ok hy12)) rfl (.c rfl (.c rfl .nil)) .nil ?_
 refine .mv rfl (by rfl) ?_
 refine .v (f_extract (by rfl) rfl) rfl (.c rfl .nil) .nil ?_
 refine .v (f_extract (by rfl) rfl) rfl (.c rfl .nil) .nil ?_
 refine .v (f_extract (by rfl) rfl) rfl (.c rfl .nil) .nil ?_
 refine .n (f_alloc 5 (by rfl) zrv26) rfl .nil rfl ?_
 refine .s (f_store (n := 0) (o := 5) (off := 0) (p := []) (c := .st [.d (eA22 (List.replicate 32 (0 : Int))), .d (.val (.slice none 0 0))]) (old := .st [.d (eA22 (List.replicate 32 (0 : Int))), .d (.val (.slice none 0 0))]) (z := .d (eGLine y11.1)) (c' := .d (eGLine y11.1)) rfl rfl (by rfl) ty26 (by rfl)) rfl (.c rfl (.c rfl .nil)) (.cons rfl .nil) ?_
 refine .as rfl (by rfl) ?_
 refine .as rfl (by rfl) ?_
 refine .nil (aq_then ?_)
 refine aw_seq ?_
 obtain ⟨o29, ho30, h⟩ := bind_some h
 refine aw_join (.normal) ⟨[(0, .d (.val (.bool o29)))], [], []⟩ ?_ ?_
 · replace h := ho30
   refine aw_r ?_
   refine .mv rfl (by rfl) ?_
   refine .v (f_binI (by rfl) rfl (by rfl)) rfl (.c rfl (.c rfl .nil)) .nil ?_
   refine .mv rfl (by rfl) ?_
   rcases Bool.eq_false_or_eq_true (y3.2 == (0 : Int)) with hc13 | hc13
   · replace h := ite_t hc13 h
     refine .gv (f_move (by rfl)) rfl rfl rfl hc13 (.c rfl .nil) .nil ?_
     obtain ⟨y14, hy15, h⟩ := bind_some h
     refine .gv (f_callP hgl (by rfl) en36 rfl (by rfl) (by rfl) (by rfl) (F36_beadrolllaw19_one_ok hy15)) rfl rfl rfl hc13 (.c rfl (.c rfl .nil)) .nil ?_
     obtain ⟨y16, hy17, h⟩ := bind_some h
     refine .gv (f_callP hgl (by rfl) en36 rfl (by rfl) (by rfl) (by rfl) (F36_beadrolllaw19_one_ok hy17)) rfl rfl rfl hc13 (.c rfl (.c rfl .nil)) .nil ?_
     refine .gw (f_buildS (xs := [(0, .d (eGTx y14)), (1, .d (eGTx y16))]) (z := (.st [(eA22 (List.replicate 32 (0 : Int))), (eA22 (List.replicate 32 (0 : Int))), (.val (.int .u64 (0 : Int))), (.val (.int .u64 (0 : Int))), (.val (.int .u64 (0 : Int))), (eA22 (List.replicate 32 (0 : Int)))])) (zs := (([y14, y16] : List GTx)).map eGTx) 1064 (by rfl) el24 zel24 (by rfl) (by decide) (by decide) rfl (by rfl) ⟨_, _, _, rfl, pl24_0, rfl, rfl, ⟨_, _, _, rfl, pl24_1, rfl, rfl, trivial⟩⟩ (by rfl)) rfl rfl rfl hc13 (.c rfl (.c rfl .nil)) .nil (.cons rfl .nil) ?_
     obtain ⟨y18, hy19, h⟩ := bind_some h
     refine .gw (f_callH0 (xs := [.d (eL24 y3.1), .slc 1064 0 ((([y14, y16] : List GTx)).length) 99]) (r := .d (.val (.bool y18))) (hr := []) (fun i => i) [(1064, (.arr 99 ((([y14, y16] : List GTx)).length) ((([y14, y16] : List GTx)).map eGTx)))] hgl (by rfl) (cal_f en20) rfl (by rfl) (by rfl) (by rfl) (by rfl) (by rfl) (.cons (.same _) (.cons (.whole (.head _)) .nil)) rfl rfl (flat_val) trivial (F20_beadrollref19_SameTxs_ok hy19)) rfl rfl rfl hc13 (.c rfl (.c rfl .nil)) (.cons rfl .nil) .nil ?_
     refine .v (f_pick_true (by rfl) hc13) rfl (.c rfl (.c rfl .nil)) .nil ?_
     refine .mv rfl (by rfl) ?_
     rcases Bool.eq_false_or_eq_true y18 with hc20 | hc20
     · replace h := ite_t hc20 h
       refine .gv (f_move (by rfl)) rfl rfl rfl hc20 (.c rfl .nil) .nil ?_
       refine .gv (f_binI (by rfl) rfl (by rfl)) rfl rfl rfl hc20 (.c rfl (.c rfl .nil)) .nil ?_
       refine .v (f_pick_true (by rfl) hc20) rfl (.c rfl (.c rfl .nil)) .nil ?_
       refine .mv rfl (by rfl) ?_
       rcases Bool.eq_false_or_eq_true (y7.2 == (0 : Int)) with hc21 | hc21
       · replace h := ite_t hc21 h
         refine .gv (f_move (by rfl)) rfl rfl rfl hc21 (.c rfl .nil) .nil ?_
         refine .gv (f_lenD (n := (y7.1).length) (by rfl) sl24 rfl (by simp)) rfl rfl rfl hc21 (.c rfl .nil) .nil ?_
         refine .gv (f_binI (by rfl) rfl (by rfl)) rfl rfl rfl hc21 (.c rfl (.c rfl .nil)) .nil ?_
         refine .v (f_pick_true (by rfl) hc21) rfl (.c rfl (.c rfl .nil)) .nil ?_
         refine .mv rfl (by rfl) ?_
         rcases Bool.eq_false_or_eq_true (((y7.1).length : Int) == (0 : Int)) with hc22 | hc22
         · replace h := ite_t hc22 h
           refine .gv (f_move (by rfl)) rfl rfl rfl hc22 (.c rfl .nil) .nil ?_
           refine .gv (f_binI (by rfl) rfl (by rfl)) rfl rfl rfl hc22 (.c rfl (.c rfl .nil)) .nil ?_
           refine .v (f_pick_true (by rfl) hc22) rfl (.c rfl (.c rfl .nil)) .nil ?_
           refine .mv rfl (by rfl) ?_
           rcases Bool.eq_false_or_eq_true (y11.2.2 == (0 : Int)) with hc23 | hc23
           · replace h := ite_t hc23 h
             refine .gv (f_fieldAddr (n := 32) (by rfl) fl26_1 (by decide)) rfl rfl rfl hc23 (.c rfl .nil) .nil ?_
             refine .gv (f_load (n := 0) (o := 5) (off := (0 + 32)) (p := [1]) (c := .d (eGLine y11.1)) (z := .d (eL24 y11.1.Txs)) (by rfl) rfl ty24 (by rfl)) rfl rfl rfl hc23 (.c rfl .nil) (.cons rfl .nil) ?_
             refine .gv (f_lenD (n := (y11.1.Txs).length) (by rfl) sl24 rfl (by simp)) rfl rfl rfl hc23 (.c rfl .nil) .nil ?_
             refine .gv (f_binI (by rfl) rfl (by rfl)) rfl rfl rfl hc23 (.c rfl (.c rfl .nil)) .nil ?_
             refine .v (f_pick_true (by rfl) hc23) rfl (.c rfl (.c rfl .nil)) .nil ?_
             refine .mv rfl (by rfl) ?_
             rcases Bool.eq_false_or_eq_true (((y11.1.Txs).length : Int) == (2 : Int)) with hc24 | hc24
             · replace h := ite_t hc24 h
               refine .gv (f_move (by rfl)) rfl rfl rfl hc24 (.c rfl .nil) .nil ?_
               obtain ⟨y25, hy26, h⟩ := bind_some h
               refine .gv (f_callP hgl (by rfl) en36 rfl (by rfl) (by rfl) (by rfl) (F36_beadrolllaw19_one_ok hy26)) rfl rfl rfl hc24 (.c rfl (.c rfl .nil)) .nil ?_
               refine .gw (f_buildS (xs := [(0, .d (eGTx y25))]) (z := (.st [(eA22 (List.replicate 32 (0 : Int))), (eA22 (List.replicate 32 (0 : Int))), (.val (.int .u64 (0 : Int))), (.val (.int .u64 (0 : Int))), (.val (.int .u64 (0 : Int))), (eA22 (List.replicate 32 (0 : Int)))])) (zs := (([y25] : List GTx)).map eGTx) 1065 (by rfl) el24 zel24 (by rfl) (by decide) (by decide) rfl (by rfl) ⟨_, _, _, rfl, pl24_0, rfl, rfl, trivial⟩ (by rfl)) rfl rfl rfl hc24 (.c rfl .nil) .nil (.cons rfl .nil) ?_
               obtain ⟨y27, hy28, h⟩ := bind_some h
               refine .gw (f_callH0 (xs := [.d (eL24 y11.2.1), .slc 1065 0 ((([y25] : List GTx)).length) 99]) (r := .d (.val (.bool y27))) (hr := []) (fun i => i) [(1065, (.arr 99 ((([y25] : List GTx)).length) ((([y25] : List GTx)).map eGTx)))] hgl (by rfl) (cal_f en20) rfl (by rfl) (by rfl) (by rfl) (by rfl) (by rfl) (.cons (.same _) (.cons (.whole (.head _)) .nil)) rfl rfl (flat_val) trivial (F20_beadrollref19_SameTxs_ok hy28)) rfl rfl rfl hc24 (.c rfl (.c rfl .nil)) (.cons rfl .nil) .nil ?_
               refine .v (f_pick_true (by rfl) hc24) rfl (.c rfl (.c rfl .nil)) .nil ?_
               refine .as rfl (by rfl) ?_
               refine .nil ?_
               obtain rfl := Option.some.inj h
               refine aq_weak (s' := ⟨[(0, .d (.val (.bool y27)))], [], []⟩) id hb0 (.keep rfl .nil) .nil rfl (by rfl) ?_
               exact jq
             replace h := ite_f hc24 h
             refine .off rfl rfl rfl hc24 rfl (by rfl) ?_
             refine .off rfl rfl rfl hc24 rfl (by rfl) ?_
             refine .off rfl rfl rfl hc24 rfl (by rfl) ?_
             refine .off rfl rfl rfl hc24 rfl (by rfl) ?_
             refine .v (f_pick_false (by rfl) hc24) rfl (.c rfl (.c rfl .nil)) .nil ?_
             refine .as rfl (by rfl) ?_
             refine .nil ?_
             obtain rfl := Option.some.inj h
             refine aq_weak (s' := ⟨[(0, .d (.val (.bool false)))], [], []⟩) id hb0 (.keep rfl .nil) .nil rfl (by rfl) ?_
             exact jq
           replace h := ite_f hc23 h
           refine .off rfl rfl rfl hc23 rfl (by rfl) ?_
           refine .off rfl rfl rfl hc23 rfl (by rfl) ?_
           refine .off rfl rfl rfl hc23 rfl (by rfl) ?_
           refine .off rfl rfl rfl hc23 rfl (by rfl) ?_
           refine .v (f_pick_false (by rfl) hc23) rfl (.c rfl (.c rfl .nil)) .nil ?_
           refine .mv rfl (by rfl) ?_
           refine .off rfl rfl rfl rfl rfl (by rfl) ?_
           refine .off rfl rfl rfl rfl rfl (by rfl) ?_
           refine .off rfl rfl rfl rfl rfl (by rfl) ?_
           refine .off rfl rfl rfl rfl rfl (by rfl) ?_
           refine .v (f_pick_false (by rfl) rfl) rfl (.c rfl (.c rfl .nil)) .nil ?_
           refine .as rfl (by rfl) ?_
           refine .nil ?_
           obtain rfl := Option.some.inj h
           refine aq_weak (s' := ⟨[(0, .d (.val (.bool false)))], [], []⟩) id hb0 (.keep rfl .nil) .nil rfl (by rfl) ?_
           exact jq
         replace h := ite_f hc22 h
         refine .off rfl rfl rfl hc22 rfl (by rfl) ?_
         refine .off rfl rfl rfl hc22 rfl (by rfl) ?_
         refine .v (f_pick_false (by rfl) hc22) rfl (.c rfl (.c rfl .nil)) .nil ?_
         refine .mv rfl (by rfl) ?_
         refine .off rfl rfl rfl rfl rfl (by rfl) ?_
         refine .off rfl rfl rfl rfl rfl (by rfl) ?_
         refine .off rfl rfl rfl rfl rfl (by rfl) ?_
         refine .off rfl rfl rfl rfl rfl (by rfl) ?_
         refine .v (f_pick_false (by rfl) rfl) rfl (.c rfl (.c rfl .nil)) .nil ?_
         refine .mv rfl (by rfl) ?_
         refine .off rfl rfl rfl rfl rfl (by rfl) ?_
         refine .off rfl rfl rfl rfl rfl (by rfl) ?_
         refine .off rfl rfl rfl rfl rfl (by rfl) ?_
         refine .off rfl rfl rfl rfl rfl (by rfl) ?_
         refine .v (f_pick_false (by rfl) rfl) rfl (.c rfl (.c rfl .nil)) .nil ?_
         refine .as rfl (by rfl) ?_
         refine .nil ?_
         obtain rfl := Option.some.inj h
         refine aq_weak (s' := ⟨[(0, .d (.val (.bool false)))], [], []⟩) id hb0 (.keep rfl .nil) .nil rfl (by rfl) ?_
         exact jq
       replace h := ite_f hc21 h
       refine .off rfl rfl rfl hc21 rfl (by rfl) ?_
       refine .off rfl rfl rfl hc21 rfl (by rfl) ?_
       refine .off rfl rfl rfl hc21 rfl (by rfl) ?_
       refine .v (f_pick_false (by rfl) hc21) rfl (.c rfl (.c rfl .nil)) .nil ?_
       refine .mv rfl (by rfl) ?_
       refine .off rfl rfl rfl rfl rfl (by rfl) ?_
       refine .off rfl rfl rfl rfl rfl (by rfl) ?_
       refine .v (f_pick_false (by rfl) rfl) rfl (.c rfl (.c rfl .nil)) .nil ?_
       refine .mv rfl (by rfl) ?_
       refine .off rfl rfl rfl rfl rfl (by rfl) ?_
       refine .off rfl rfl rfl rfl rfl (by rfl) ?_
       refine .off rfl rfl rfl rfl rfl (by rfl) ?_
       refine .off rfl rfl rfl rfl rfl (by rfl) ?_
       refine .v (f_pick_false (by rfl) rfl) rfl (.c rfl (.c rfl .nil)) .nil ?_
       refine .mv rfl (by rfl) ?_
       refine .off rfl rfl rfl rfl rfl (by rfl) ?_
       refine .off rfl rfl rfl rfl rfl (by rfl) ?_
       refine .off rfl rfl rfl rfl rfl (by rfl) ?_
       refine .off rfl rfl rfl rfl rfl (by rfl) ?_
       refine .v (f_pick_false (by rfl) rfl) rfl (.c rfl (.c rfl .nil)) .nil ?_
       refine .as rfl (by rfl) ?_
       refine .nil ?_
       obtain rfl := Option.some.inj h
       refine aq_weak (s' := ⟨[(0, .d (.val (.bool false)))], [], []⟩) id hb0 (.keep rfl .nil) .nil rfl (by rfl) ?_
       exact jq
     replace h := ite_f hc20 h
     refine .off rfl rfl rfl hc20 rfl (by rfl) ?_
     refine .off rfl rfl rfl hc20 rfl (by rfl) ?_
     refine .v (f_pick_false (by rfl) hc20) rfl (.c rfl (.c rfl .nil)) .nil ?_
     refine .mv rfl (by rfl) ?_
     refine .off rfl rfl rfl rfl rfl (by rfl) ?_
     refine .off rfl rfl rfl rfl rfl (by rfl) ?_
     refine .off rfl rfl rfl rfl rfl (by rfl) ?_
     refine .v (f_pick_false (by rfl) rfl) rfl (.c rfl (.c rfl .nil)) .nil ?_
     refine .mv rfl (by rfl) ?_
     refine .off rfl rfl rfl rfl rfl (by rfl) ?_
     refine .off rfl rfl rfl rfl rfl (by rfl) ?_
     refine .v (f_pick_false (by rfl) rfl) rfl (.c rfl (.c rfl .nil)) .nil ?_
     refine .mv rfl (by rfl) ?_
     refine .off rfl rfl rfl rfl rfl (by rfl) ?_
     refine .off rfl rfl rfl rfl rfl (by rfl) ?_
     refine .off rfl rfl rfl rfl rfl (by rfl) ?_
     refine .off rfl rfl rfl rfl rfl (by rfl) ?_
     refine .v (f_pick_false (by rfl) rfl) rfl (.c rfl (.c rfl .nil)) .nil ?_
     refine .mv rfl (by rfl) ?_
     refine .off rfl rfl rfl rfl rfl (by rfl) ?_
     refine .off rfl rfl rfl rfl rfl (by rfl) ?_
     refine .off rfl rfl rfl rfl rfl (by rfl) ?_
     refine .off rfl rfl rfl rfl rfl (by rfl) ?_
     refine .v (f_pick_false (by rfl) rfl) rfl (.c rfl (.c rfl .nil)) .nil ?_
     refine .as rfl (by rfl) ?_
     refine .nil ?_
     obtain rfl := Option.some.inj h
     refine aq_weak (s' := ⟨[(0, .d (.val (.bool false)))], [], []⟩) id hb0 (.keep rfl .nil) .nil rfl (by rfl) ?_
     exact jq
   replace h := ite_f hc13 h
   refine .off rfl rfl rfl hc13 rfl (by rfl) ?_
   refine .off rfl rfl rfl hc13 rfl (by rfl) ?_
   refine .off rfl rfl rfl hc13 rfl (by rfl) ?_
   refine .off rfl rfl rfl hc13 rfl (by rfl) ?_
   refine .off rfl rfl rfl hc13 rfl (by rfl) ?_
   refine .v (f_pick_false (by rfl) hc13) rfl (.c rfl (.c rfl .nil)) .nil ?_
   refine .mv rfl (by rfl) ?_
   refine .off rfl rfl rfl rfl rfl (by rfl) ?_
   refine .off rfl rfl rfl rfl rfl (by rfl) ?_
   refine .v (f_pick_false (by rfl) rfl) rfl (.c rfl (.c rfl .nil)) .nil ?_
   refine .mv rfl (by rfl) ?_
   refine .off rfl rfl rfl rfl rfl (by rfl) ?_
   refine .off rfl rfl rfl rfl rfl (by rfl) ?_
   refine .off rfl rfl rfl rfl rfl (by rfl) ?_
   refine .v (f_pick_false (by rfl) rfl) rfl (.c rfl (.c rfl .nil)) .nil ?_
   refine .mv rfl (by rfl) ?_
   refine .off rfl rfl rfl rfl rfl (by rfl) ?_
   refine .off rfl rfl rfl rfl rfl (by rfl) ?_
   refine .v (f_pick_false (by rfl) rfl) rfl (.c rfl (.c rfl .nil)) .nil ?_
   refine .mv rfl (by rfl) ?_
   refine .off rfl rfl rfl rfl rfl (by rfl) ?_
   refine .off rfl rfl rfl rfl rfl (by rfl) ?_
   refine .off rfl rfl rfl rfl rfl (by rfl) ?_
   refine .off rfl rfl rfl rfl rfl (by rfl) ?_
   refine .v (f_pick_false (by rfl) rfl) rfl (.c rfl (.c rfl .nil)) .nil ?_
   refine .mv rfl (by rfl) ?_
   refine .off rfl rfl rfl rfl rfl (by rfl) ?_
   refine .off rfl rfl rfl rfl rfl (by rfl) ?_
   refine .off rfl rfl rfl rfl rfl (by rfl) ?_
   refine .off rfl rfl rfl rfl rfl (by rfl) ?_
   refine .v (f_pick_false (by rfl) rfl) rfl (.c rfl (.c rfl .nil)) .nil ?_
   refine .as rfl (by rfl) ?_
   refine .nil ?_
   obtain rfl := Option.some.inj h
   refine aq_weak (s' := ⟨[(0, .d (.val (.bool false)))], [], []⟩) id hb0 (.keep rfl .nil) .nil rfl (by rfl) ?_
   exact jq
 refine aq_then ?_
 refine aw_ret ?_
 obtain rfl := Option.some.inj h
 exact aq_finp hb0 rfl (.tmp rfl (by rfl) .nil) (by rfl) rfl ⟨rfl, rfl⟩

/- 3: beadroll/beadrolllaw19.QueueRuns -/
def F3_beadrolllaw19_QueueRuns_s0 (n : Nat) (a0 : GLine) (a1 : Int) (y6 : (List GTx) × Int) (z0_0 : Int) : Option ((Int) ⊕ ((Unit) ⊕ (Unit))) :=
  (if (decide (z0_0 < ((y6.1).length : Int))) = true then ((F19_beadrolllaw19_find n a0 (IntKind.u64.wrap (a1 + (IntKind.u64.wrap z0_0)))).bind fun (y20 : GTx × Bool) => ((((rd y6.1 z0_0).bind fun (x22 : GTx) => (if (x22.Nonce != (IntKind.u64.wrap (a1 + (IntKind.u64.wrap z0_0)))) = true then some true else (if (!y20.2) = true then some true else ((rd y6.1 z0_0).bind fun (x27 : GTx) => some (!(decide (y20.1 = x27)))))))).bind fun (o30 : Bool) => (if o30 = true then some (.inr (.inr ())) else some (.inl (IntKind.i64.wrap (z0_0 + (1 : Int))))))) else some (.inr (.inl ())))
def F3_beadrolllaw19_QueueRuns (n : Nat) (a0 : GLine) (a1 : Int) : Option (Bool) :=
  ((F15_beadrolllaw19_alive n ).bind fun (y1 : Bool) => (((if (decide (((a0.Txs).length : Int) > (12 : Int))) = true then some true else some (!y1))).bind fun (o4 : Bool) => (if o4 = true then some y1 else ((F16_queue_Ready n a0 a1).bind fun (y6 : (List GTx) × Int) => ((F17_queue_Past n a0 a1).bind fun (y8 : GLine × (List GTx) × Int) => (((if (y6.2 != (0 : Int)) = true then some true else some (y8.2.2 != (0 : Int)))).bind fun (o11 : Bool) => (if o11 = true then (((if y1 = true then (if (y6.2 == y8.2.2) = true then ((F18_queue_Check n a0).bind fun (y15 : Int) => some (y15 == y6.2)) else some false) else some false)).bind fun (o17 : Bool) => some o17) else ((loopF (fun (z : Int) => F3_beadrolllaw19_QueueRuns_s0 n a0 a1 y6 z) n (0 : Int)).bind (Sum.elim (fun (j33 : Unit) => ((F19_beadrolllaw19_find n a0 (IntKind.u64.wrap (a1 + (IntKind.u64.wrap ((y6.1).length : Int))))).bind fun (y35 : GTx × Bool) => (((if y1 = true then (if (!y35.2) = true then (if ((([] : List GTx) ++ y8.2.1)).length ≤ 1073741824 then (if (((([] : List GTx) ++ y8.2.1) ++ y8.1.Txs)).length ≤ 1073741824 then ((F20_beadrollref19_SameTxs n ((([] : List GTx) ++ y8.2.1) ++ y8.1.Txs) a0.Txs).bind fun (y41 : Bool) => (if y41 = true then ((F18_queue_Check n y8.1).bind fun (y44 : Int) => some (y44 == (0 : Int))) else some false)) else none) else none) else (if (decide ((IntKind.u64.wrap (a1 + (IntKind.u64.wrap ((y6.1).length : Int)))) < a1)) = true then (if ((([] : List GTx) ++ y8.2.1)).length ≤ 1073741824 then (if (((([] : List GTx) ++ y8.2.1) ++ y8.1.Txs)).length ≤ 1073741824 then ((F20_beadrollref19_SameTxs n ((([] : List GTx) ++ y8.2.1) ++ y8.1.Txs) a0.Txs).bind fun (y49 : Bool) => (if y49 = true then ((F18_queue_Check n y8.1).bind fun (y52 : Int) => some (y52 == (0 : Int))) else some false)) else none) else none) else some false)) else some false)).bind fun (o54 : Bool) => some o54))) (fun (j33 : Unit) => some false))))))))))
theorem F3_beadrolllaw19_QueueRuns_ok {n : Nat} {a0 : GLine} {a1 : Int} {r : Bool} (h : F3_beadrolllaw19_QueueRuns n a0 a1 = some r) :
    ACall Tryd.prog GS 3 [.d (eGLine a0), .d (.val (.int .u64 a1))] [] (fun r' hp' => r' = .d (.val (.bool r)) ∧ hp' = []) := by
 refine acall_of_body mixed Tryd.func3 rfl (by rfl) ?_
 intro C hro hgl hb0
 unfold F3_beadrolllaw19_QueueRuns at h
 refine aw_rs ?_
 refine .n (f_box 2 (by rfl) (by rfl)) rfl (.c rfl .nil) rfl ?_
 refine .as rfl (by rfl) ?_
 refine .nil (aq_then ?_)
 refine aw_rs ?_
 obtain ⟨y1, hy2, h⟩ := bind_some h
 refine .v (f_callP hgl (by rfl) en15 rfl (by rfl) (by rfl) (by rfl) (F15_beadrolllaw19_alive_ok hy2)) rfl .nil .nil ?_
 refine .as rfl (by rfl) ?_
 refine .nil (aq_then ?_)
 refine aw_seq ?_
 refine aw_seq ?_
 obtain ⟨o4, ho57, h⟩ := bind_some h
 refine aw_join (.normal) ⟨[(1, .d (.val (.int .u64 a1))), (2, .ptr 2 0 []), (5, .d (.val (.bool y1))), (25, .d (.val (.bool o4)))], [(2, .av (.d (eGLine a0)))], []⟩ ?_ ?_
 · replace h := ho57
   refine aw_r ?_
   refine .v (f_fieldAddr (n := 32) (by rfl) fl26_1 (by decide)) rfl (.c rfl .nil) .nil ?_
   refine .v (f_load (n := 0) (o := 2) (off := (0 + 32)) (p := [1]) (c := .d (eGLine a0)) (z := .d (eL24 a0.Txs)) (by rfl) rfl ty24 (by rfl)) rfl (.c rfl .nil) (.cons rfl .nil) ?_
   refine .v (f_lenD (n := (a0.Txs).length) (by rfl) sl24 rfl (by simp)) rfl (.c rfl .nil) .nil ?_
   refine .v (f_binI (by rfl) rfl (by rfl)) rfl (.c rfl (.c rfl .nil)) .nil ?_
   refine .mv rfl (by rfl) ?_
   rcases Bool.eq_false_or_eq_true (decide (((a0.Txs).length : Int) > (12 : Int))) with hc3 | hc3
   · replace h := ite_t hc3 h
     refine .off rfl rfl rfl hc3 rfl (by rfl) ?_
     refine .off rfl rfl rfl hc3 rfl (by rfl) ?_
     refine .v (f_pick_true (by rfl) hc3) rfl (.c rfl (.c rfl .nil)) .nil ?_
     refine .nil ?_
     obtain rfl := Option.some.inj h
     refine aq_weak (s' := ⟨[(1, .d (.val (.int .u64 a1))), (2, .ptr 2 0 []), (5, .d (.val (.bool y1))), (25, .d (.val (.bool true)))], [(2, .av (.d (eGLine a0)))], []⟩) id hb0 (.keep rfl (.keep rfl (.keep rfl (.keep rfl .nil)))) (.keep rfl .nil) rfl (by rfl) ?_
     exact jq
   replace h := ite_f hc3 h
   refine .gv (f_move (by rfl)) rfl rfl rfl hc3 (.c rfl .nil) .nil ?_
   refine .gv (f_not (by rfl)) rfl rfl rfl hc3 (.c rfl .nil) .nil ?_
   refine .v (f_pick_false (by rfl) hc3) rfl (.c rfl (.c rfl .nil)) .nil ?_
   refine .nil ?_
   obtain rfl := Option.some.inj h
   refine aq_weak (s' := ⟨[(1, .d (.val (.int .u64 a1))), (2, .ptr 2 0 []), (5, .d (.val (.bool y1))), (25, .d (.val (.bool (!y1))))], [(2, .av (.d (eGLine a0)))], []⟩) id hb0 (.keep rfl (.keep rfl (.keep rfl (.keep rfl .nil)))) (.keep rfl .nil) rfl (by rfl) ?_
   exact jq
 refine aq_then ?_
 refine aw_cond rfl (fun hc5 => ?_) (fun hc5 => ?_)
 · replace h := ite_t hc5 h
   refine aw_rs ?_
   refine .mv rfl (by rfl) ?_
   refine .as rfl (by rfl) ?_
   refine .nil (aq_then ?_)
   refine aw_ret ?_
   refine aq_then_ret ?_
   obtain rfl := Option.some.inj h
   exact aq_finp hb0 rfl (.tmp rfl (by rfl) .nil) (by rfl) rfl ⟨rfl, rfl⟩
 replace h := ite_f hc5 h
 refine aw_skip ?_
 refine aq_then ?_
 refine aw_rs ?_
 refine .v (f_load (n := 0) (o := 2) (off := 0) (p := []) (c := .d (eGLine a0)) (z := .d (eGLine a0)) (by rfl) rfl ty26 (by rfl)) rfl (.c rfl .nil) (.cons rfl .nil) ?_
 refine .mv rfl (by rfl) ?_
 obtain ⟨y6, hy7, h⟩ := bind_some h
 refine .v (f_callP hgl (by rfl) en16 rfl (by rfl) (by rfl) (by rfl) (F16_queue_Ready_ok hy7)) rfl (.c rfl (.c rfl .nil)) .nil ?_
 refine .mv rfl (by rfl) ?_
 refine .v (f_extract (by rfl) rfl) rfl (.c rfl .nil) .nil ?_
 refine .v (f_extract (by rfl) rfl) rfl (.c rfl .nil) .nil ?_
 refine .as rfl (by rfl) ?_
 refine .as rfl (by rfl) ?_
 refine .nil (aq_then ?_)
 refine aw_rs ?_
 refine .v (f_load (n := 0) (o := 2) (off := 0) (p := []) (c := .d (eGLine a0)) (z := .d (eGLine a0)) (by rfl) rfl ty26 (by rfl)) rfl (.c rfl .nil) (.cons rfl .nil) ?_
 refine .mv rfl (by rfl) ?_
 obtain ⟨y8, hy9, h⟩ := bind_some h
 refine .v (f_callP hgl (by rfl) en17 rfl (by rfl) (by rfl) (by rfl) (F17_queue_Past_ok hy9)) rfl (.c rfl (.c rfl .nil)) .nil ?_
 refine .mv rfl (by rfl) ?_
 refine .v (f_extract (by rfl) rfl) rfl (.c rfl .nil) .nil ?_
 refine .v (f_extract (by rfl) rfl) rfl (.c rfl .nil) .nil ?_
 refine .v (f_extract (by rfl) rfl) rfl (.c rfl .nil) .nil ?_
 refine .n (f_alloc 8 (by rfl) zrv26) rfl .nil rfl ?_
 refine .s (f_store (n := 0) (o := 8) (off := 0) (p := []) (c := .st [.d (eA22 (List.replicate 32 (0 : Int))), .d (.val (.slice none 0 0))]) (old := .st [.d (eA22 (List.replicate 32 (0 : Int))), .d (.val (.slice none 0 0))]) (z := .d (eGLine y8.1)) (c' := .d (eGLine y8.1)) rfl rfl (by rfl) ty26 (by rfl)) rfl (.c rfl (.c rfl .nil)) (.cons rfl .nil) ?_
 refine .as rfl (by rfl) ?_
 refine .as rfl (by rfl) ?_
 refine .nil (aq_then ?_)
 refine aw_seq ?_
 refine aw_seq ?_
 obtain ⟨o11, ho56, h⟩ := bind_some h
 refine aw_join (.normal) ⟨[(1, .d (.val (.int .u64 a1))), (2, .ptr 2 0 []), (5, .d (.val (.bool y1))), (6, .d (eL24 y6.1)), (7, .d (.val (.int .i64 y6.2))), (8, .ptr 8 0 []), (9, .d (eL24 y8.2.1)), (10, .d (.val (.int .i64 y8.2.2))), (45, .d (.val (.bool o11)))], [(2, .av (.d (eGLine a0))), (8, .av (.d (eGLine y8.1)))], []⟩ ?_ ?_
 · replace h := ho56
   refine aw_r ?_
   refine .mv rfl (by rfl) ?_
   refine .v (f_binI (by rfl) rfl (by rfl)) rfl (.c rfl (.c rfl .nil)) .nil ?_
   refine .mv rfl (by rfl) ?_
   rcases Bool.eq_false_or_eq_true (y6.2 != (0 : Int)) with hc10 | hc10
   · replace h := ite_t hc10 h
     refine .off rfl rfl rfl hc10 rfl (by rfl) ?_
     refine .off rfl rfl rfl hc10 rfl (by rfl) ?_
     refine .v (f_pick_true (by rfl) hc10) rfl (.c rfl (.c rfl .nil)) .nil ?_
     refine .nil ?_
     obtain rfl := Option.some.inj h
     refine aq_weak (s' := ⟨[(1, .d (.val (.int .u64 a1))), (2, .ptr 2 0 []), (5, .d (.val (.bool y1))), (6, .d (eL24 y6.1)), (7, .d (.val (.int .i64 y6.2))), (8, .ptr 8 0 []), (9, .d (eL24 y8.2.1)), (10, .d (.val (.int .i64 y8.2.2))), (45, .d (.val (.bool true)))], [(2, .av (.d (eGLine a0))), (8, .av (.d (eGLine y8.1)))], []⟩) id hb0 (.keep rfl (.keep rfl (.keep rfl (.keep rfl (.keep rfl (.keep rfl (.keep rfl (.keep rfl (.keep rfl .nil))))))))) (.keep rfl (.keep rfl .nil)) rfl (by rfl) ?_
     exact jq
   replace h := ite_f hc10 h
   refine .gv (f_move (by rfl)) rfl rfl rfl hc10 (.c rfl .nil) .nil ?_
   refine .gv (f_binI (by rfl) rfl (by rfl)) rfl rfl rfl hc10 (.c rfl (.c rfl .nil)) .nil ?_
   refine .v (f_pick_false (by rfl) hc10) rfl (.c rfl (.c rfl .nil)) .nil ?_
   refine .nil ?_
   obtain rfl := Option.some.inj h
   refine aq_weak (s' := ⟨[(1, .d (.val (.int .u64 a1))), (2, .ptr 2 0 []), (5, .d (.val (.bool y1))), (6, .d (eL24 y6.1)), (7, .d (.val (.int .i64 y6.2))), (8, .ptr 8 0 []), (9, .d (eL24 y8.2.1)), (10, .d (.val (.int .i64 y8.2.2))), (45, .d (.val (.bool (y8.2.2 != (0 : Int)))))], [(2, .av (.d (eGLine a0))), (8, .av (.d (eGLine y8.1)))], []⟩) id hb0 (.keep rfl (.keep rfl (.keep rfl (.keep rfl (.keep rfl (.keep rfl (.keep rfl (.keep rfl (.keep rfl .nil))))))))) (.keep rfl (.keep rfl .nil)) rfl (by rfl) ?_
   exact jq
 refine aq_then ?_
 refine aw_cond rfl (fun hc12 => ?_) (fun hc12 => ?_)
 · replace h := ite_t hc12 h
   refine aw_seq ?_
   obtain ⟨o17, ho18, h⟩ := bind_some h
   refine aw_join (.normal) ⟨[(4, .d (.val (.bool o17)))], [], []⟩ ?_ ?_
   · replace h := ho18
     refine aw_r ?_
     refine .mv rfl (by rfl) ?_
     refine .mv rfl (by rfl) ?_
     rcases Bool.eq_false_or_eq_true y1 with hc13 | hc13
     · replace h := ite_t hc13 h
       refine .gv (f_move (by rfl)) rfl rfl rfl hc13 (.c rfl .nil) .nil ?_
       refine .gv (f_move (by rfl)) rfl rfl rfl hc13 (.c rfl .nil) .nil ?_
       refine .gv (f_binI (by rfl) rfl (by rfl)) rfl rfl rfl hc13 (.c rfl (.c rfl .nil)) .nil ?_
       refine .v (f_pick_true (by rfl) hc13) rfl (.c rfl (.c rfl .nil)) .nil ?_
       refine .mv rfl (by rfl) ?_
       rcases Bool.eq_false_or_eq_true (y6.2 == y8.2.2) with hc14 | hc14
       · replace h := ite_t hc14 h
         refine .gv (f_load (n := 0) (o := 2) (off := 0) (p := []) (c := .d (eGLine a0)) (z := .d (eGLine a0)) (by rfl) rfl ty26 (by rfl)) rfl rfl rfl hc14 (.c rfl .nil) (.cons rfl .nil) ?_
         obtain ⟨y15, hy16, h⟩ := bind_some h
         refine .gv (f_callP hgl (by rfl) en18 rfl (by rfl) (by rfl) (by rfl) (F18_queue_Check_ok hy16)) rfl rfl rfl hc14 (.c rfl .nil) .nil ?_
         refine .gv (f_move (by rfl)) rfl rfl rfl hc14 (.c rfl .nil) .nil ?_
         refine .gv (f_binI (by rfl) rfl (by rfl)) rfl rfl rfl hc14 (.c rfl (.c rfl .nil)) .nil ?_
         refine .v (f_pick_true (by rfl) hc14) rfl (.c rfl (.c rfl .nil)) .nil ?_
         refine .as rfl (by rfl) ?_
         refine .nil ?_
         obtain rfl := Option.some.inj h
         refine aq_weak (s' := ⟨[(4, .d (.val (.bool (y15 == y6.2))))], [], []⟩) id hb0 (.keep rfl .nil) .nil rfl (by rfl) ?_
         exact jq
       replace h := ite_f hc14 h
       refine .off rfl rfl rfl hc14 rfl (by rfl) ?_
       refine .off rfl rfl rfl hc14 rfl (by rfl) ?_
       refine .off rfl rfl rfl hc14 rfl (by rfl) ?_
       refine .off rfl rfl rfl hc14 rfl (by rfl) ?_
       refine .v (f_pick_false (by rfl) hc14) rfl (.c rfl (.c rfl .nil)) .nil ?_
       refine .as rfl (by rfl) ?_
       refine .nil ?_
       obtain rfl := Option.some.inj h
       refine aq_weak (s' := ⟨[(4, .d (.val (.bool false)))], [], []⟩) id hb0 (.keep rfl .nil) .nil rfl (by rfl) ?_
       exact jq
     replace h := ite_f hc13 h
     refine .off rfl rfl rfl hc13 rfl (by rfl) ?_
     refine .off rfl rfl rfl hc13 rfl (by rfl) ?_
     refine .off rfl rfl rfl hc13 rfl (by rfl) ?_
     refine .v (f_pick_false (by rfl) hc13) rfl (.c rfl (.c rfl .nil)) .nil ?_
     refine .mv rfl (by rfl) ?_
     refine .off rfl rfl rfl rfl rfl (by rfl) ?_
     refine .off rfl rfl rfl rfl rfl (by rfl) ?_
     refine .off rfl rfl rfl rfl rfl (by rfl) ?_
     refine .off rfl rfl rfl rfl rfl (by rfl) ?_
     refine .v (f_pick_false (by rfl) rfl) rfl (.c rfl (.c rfl .nil)) .nil ?_
     refine .as rfl (by rfl) ?_
     refine .nil ?_
     obtain rfl := Option.some.inj h
     refine aq_weak (s' := ⟨[(4, .d (.val (.bool false)))], [], []⟩) id hb0 (.keep rfl .nil) .nil rfl (by rfl) ?_
     exact jq
   refine aq_then ?_
   refine aw_ret ?_
   refine aq_then_ret ?_
   obtain rfl := Option.some.inj h
   exact aq_finp hb0 rfl (.tmp rfl (by rfl) .nil) (by rfl) rfl ⟨rfl, rfl⟩
 replace h := ite_f hc12 h
 refine aw_skip ?_
 refine aq_then ?_
 refine aw_seq ?_
 refine aw_rs ?_
 refine .as rfl (by rfl) ?_
 refine .nil (aq_then ?_)
 refine aw_block ?_
 refine aw_weak (s' := ⟨[(1, .d (.val (.int .u64 a1))), (2, .ptr 2 0 []), (5, .d (.val (.bool y1))), (6, .d (eL24 y6.1)), (8, .ptr 8 0 []), (9, .d (eL24 y8.2.1)), (11, .d (.val (.int .i64 (0 : Int))))], [(2, .av (.d (eGLine a0))), (8, .av (.d (eGLine y8.1)))], []⟩) id hb0 (.keep rfl (.keep rfl (.keep rfl (.keep rfl (.keep rfl (.keep rfl (.keep rfl .nil))))))) (.keep rfl (.keep rfl .nil)) rfl (by rfl) ?_
 obtain ⟨o33, ho34, h⟩ := bind_some h
 refine aw_loopX (σ := Int) (fun z => ⟨[(1, .d (.val (.int .u64 a1))), (2, .ptr 2 0 []), (5, .d (.val (.bool y1))), (6, .d (eL24 y6.1)), (8, .ptr 8 0 []), (9, .d (eL24 y8.2.1)), (11, .d (.val (.int .i64 z)))], [(2, .av (.d (eGLine a0))), (8, .av (.d (eGLine y8.1)))], []⟩) (Sum.elim (fun _ => .exit 0) (fun _ => .ret)) (Sum.elim (fun j33 => ⟨[(1, .d (.val (.int .u64 a1))), (2, .ptr 2 0 []), (5, .d (.val (.bool y1))), (6, .d (eL24 y6.1)), (8, .ptr 8 0 []), (9, .d (eL24 y8.2.1))], [(2, .av (.d (eGLine a0))), (8, .av (.d (eGLine y8.1)))], []⟩) (fun j33 => ⟨[(4, .d (.val (.bool false)))], [], []⟩)) ho34 (by intro b; rcases b with _ | _ <;> rfl) ?_ ?_
 · clear h ho34
   intro z0_0 o h
   change F3_beadrolllaw19_QueueRuns_s0 n a0 a1 y6 z0_0 = some o at h
   unfold F3_beadrolllaw19_QueueRuns_s0 at h
   show AW _ _ _ ⟨[(1, .d (.val (.int .u64 a1))), (2, .ptr 2 0 []), (5, .d (.val (.bool y1))), (6, .d (eL24 y6.1)), (8, .ptr 8 0 []), (9, .d (eL24 y8.2.1)), (11, .d (.val (.int .i64 z0_0)))], [(2, .av (.d (eGLine a0))), (8, .av (.d (eGLine y8.1)))], []⟩
   refine aw_seq ?_
   refine aw_rs ?_
   refine .mv rfl (by rfl) ?_
   refine .mv rfl (by rfl) ?_
   refine .v (f_lenD (n := (y6.1).length) (by rfl) sl24 rfl (by simp)) rfl (.c rfl .nil) .nil ?_
   refine .v (f_binI (by rfl) rfl (by rfl)) rfl (.c rfl (.c rfl .nil)) .nil ?_
   refine .nil (aq_then ?_)
   refine aw_cond rfl (fun hc19 => ?_) (fun hc19 => ?_)
   · replace h := ite_t hc19 h
     refine aw_skip ?_
     refine aq_then ?_
     refine aw_seq ?_
     refine aw_block ?_
     refine aw_rs ?_
     refine .v (f_load (n := 0) (o := 2) (off := 0) (p := []) (c := .d (eGLine a0)) (z := .d (eGLine a0)) (by rfl) rfl ty26 (by rfl)) rfl (.c rfl .nil) (.cons rfl .nil) ?_
     refine .mv rfl (by rfl) ?_
     refine .mv rfl (by rfl) ?_
     refine .v (f_convI (by rfl) un3 un27) rfl (.c rfl .nil) .nil ?_
     refine .v (f_binI (by rfl) rfl (by rfl)) rfl (.c rfl (.c rfl .nil)) .nil ?_
     obtain ⟨y20, hy21, h⟩ := bind_some h
     refine .v (f_callP hgl (by rfl) en19 rfl (by rfl) (by rfl) (by rfl) (F19_beadrolllaw19_find_ok hy21)) rfl (.c rfl (.c rfl .nil)) .nil ?_
     refine .mv rfl (by rfl) ?_
     refine .v (f_extract (by rfl) rfl) rfl (.c rfl .nil) .nil ?_
     refine .v (f_extract (by rfl) rfl) rfl (.c rfl .nil) .nil ?_
     refine .n (f_alloc 12 (by rfl) zr36) rfl .nil rfl ?_
     refine .s (f_store (n := 0) (o := 12) (off := 0) (p := []) (c := .d (eGTx (⟨(List.replicate 32 (0 : Int)), (List.replicate 32 (0 : Int)), (0 : Int), (0 : Int), (0 : Int), (List.replicate 32 (0 : Int))⟩ : GTx))) (old := .d (eGTx (⟨(List.replicate 32 (0 : Int)), (List.replicate 32 (0 : Int)), (0 : Int), (0 : Int), (0 : Int), (List.replicate 32 (0 : Int))⟩ : GTx))) (z := .d (eGTx y20.1)) (c' := .d (eGTx y20.1)) rfl rfl (by rfl) ty36 (by rfl)) rfl (.c rfl (.c rfl .nil)) (.cons rfl .nil) ?_
     refine .as rfl (by rfl) ?_
     refine .nil (aq_then ?_)
     refine aw_seq ?_
     obtain ⟨o30, ho32, h⟩ := bind_some h
     refine aw_join (.normal) ⟨[(1, .d (.val (.int .u64 a1))), (2, .ptr 2 0 []), (5, .d (.val (.bool y1))), (6, .d (eL24 y6.1)), (8, .ptr 8 0 []), (9, .d (eL24 y8.2.1)), (11, .d (.val (.int .i64 z0_0))), (94, .d (.val (.bool o30)))], [(2, .av (.d (eGLine a0))), (8, .av (.d (eGLine y8.1)))], []⟩ ?_ ?_
     · replace h := ho32
       refine aw_rd ?_
       refine .v (f_move (by rfl)) rfl (.c rfl .nil) .nil ?_
       refine .v (f_move (by rfl)) rfl (.c rfl .nil) .nil ?_
       obtain ⟨x22, hx23, h⟩ := bind_some h
       obtain ⟨hx24, hx23⟩ := rd_some hx23
       refine .v (f_indexS (by rfl) sl24 hx24 (rd_map _ hx23)) rfl (.c rfl (.c rfl .nil)) .nil ?_
       refine .v (f_fieldAddrR (by rfl) fl36_2 (by decide) rfl) rfl (.c rfl .nil) .nil ?_
       refine .v (f_loadR (z := (.val (.int .u64 x22.Nonce))) (by rfl) ty27) rfl (.c rfl .nil) .nil ?_
       refine .v (f_move (by rfl)) rfl (.c rfl .nil) .nil ?_
       refine .v (f_move (by rfl)) rfl (.c rfl .nil) .nil ?_
       refine .v (f_convI (by rfl) un3 un27) rfl (.c rfl .nil) .nil ?_
       refine .v (f_binI (by rfl) rfl (by rfl)) rfl (.c rfl (.c rfl .nil)) .nil ?_
       refine .v (f_binI (by rfl) rfl (by rfl)) rfl (.c rfl (.c rfl .nil)) .nil ?_
       refine .v (f_move (by rfl)) rfl (.c rfl .nil) .nil ?_
       rcases Bool.eq_false_or_eq_true (x22.Nonce != (IntKind.u64.wrap (a1 + (IntKind.u64.wrap z0_0)))) with hc25 | hc25
       · replace h := ite_t hc25 h
         refine .off rfl rfl rfl hc25 rfl (by rfl) ?_
         refine .off rfl rfl rfl hc25 rfl (by rfl) ?_
         refine .v (f_pick_true (by rfl) hc25) rfl (.c rfl (.c rfl .nil)) .nil ?_
         refine .v (f_move (by rfl)) rfl (.c rfl .nil) .nil ?_
         refine .off rfl rfl rfl rfl rfl (by rfl) ?_
         refine .off rfl rfl rfl rfl rfl (by rfl) ?_
         refine .off rfl rfl rfl rfl rfl (by rfl) ?_
         refine .off rfl rfl rfl rfl rfl (by rfl) ?_
         refine .off rfl rfl rfl rfl rfl (by rfl) ?_
         refine .off rfl rfl rfl rfl rfl (by rfl) ?_
         refine .v (f_pick_true (by rfl) rfl) rfl (.c rfl (.c rfl .nil)) .nil ?_
         refine .nil (by kernel_rfl) ?_
         obtain rfl := Option.some.inj h
         refine aq_weak (s' := ⟨[(1, .d (.val (.int .u64 a1))), (2, .ptr 2 0 []), (5, .d (.val (.bool y1))), (6, .d (eL24 y6.1)), (8, .ptr 8 0 []), (9, .d (eL24 y8.2.1)), (11, .d (.val (.int .i64 z0_0))), (94, .d (.val (.bool true)))], [(2, .av (.d (eGLine a0))), (8, .av (.d (eGLine y8.1)))], []⟩) id hb0 (.keep rfl (.keep rfl (.keep rfl (.keep rfl (.keep rfl (.keep rfl (.keep rfl (.keep rfl .nil)))))))) (.keep rfl (.keep rfl .nil)) rfl (by rfl) ?_
         exact jq
       replace h := ite_f hc25 h
       refine .gv (f_move (by rfl)) rfl rfl rfl hc25 (.c rfl .nil) .nil ?_
       refine .gv (f_not (by rfl)) rfl rfl rfl hc25 (.c rfl .nil) .nil ?_
       refine .v (f_pick_false (by rfl) hc25) rfl (.c rfl (.c rfl .nil)) .nil ?_
       refine .v (f_move (by rfl)) rfl (.c rfl .nil) .nil ?_
       rcases Bool.eq_false_or_eq_true (!y20.2) with hc26 | hc26
       · replace h := ite_t hc26 h
         refine .off rfl rfl rfl hc26 rfl (by rfl) ?_
         refine .off rfl rfl rfl hc26 rfl (by rfl) ?_
         refine .off rfl rfl rfl hc26 rfl (by rfl) ?_
         refine .off rfl rfl rfl hc26 rfl (by rfl) ?_
         refine .off rfl rfl rfl hc26 rfl (by rfl) ?_
         refine .off rfl rfl rfl hc26 rfl (by rfl) ?_
         refine .v (f_pick_true (by rfl) hc26) rfl (.c rfl (.c rfl .nil)) .nil ?_
         refine .nil (by kernel_rfl) ?_
         obtain rfl := Option.some.inj h
         refine aq_weak (s' := ⟨[(1, .d (.val (.int .u64 a1))), (2, .ptr 2 0 []), (5, .d (.val (.bool y1))), (6, .d (eL24 y6.1)), (8, .ptr 8 0 []), (9, .d (eL24 y8.2.1)), (11, .d (.val (.int .i64 z0_0))), (94, .d (.val (.bool true)))], [(2, .av (.d (eGLine a0))), (8, .av (.d (eGLine y8.1)))], []⟩) id hb0 (.keep rfl (.keep rfl (.keep rfl (.keep rfl (.keep rfl (.keep rfl (.keep rfl (.keep rfl .nil)))))))) (.keep rfl (.keep rfl .nil)) rfl (by rfl) ?_
         exact jq
       replace h := ite_f hc26 h
       refine .gv (f_load (n := 0) (o := 12) (off := 0) (p := []) (c := .d (eGTx y20.1)) (z := .d (eGTx y20.1)) (by rfl) rfl ty36 (by rfl)) rfl rfl rfl hc26 (.c rfl .nil) (.cons rfl .nil) ?_
       refine .gv (f_move (by rfl)) rfl rfl rfl hc26 (.c rfl .nil) .nil ?_
       refine .gv (f_move (by rfl)) rfl rfl rfl hc26 (.c rfl .nil) .nil ?_
       obtain ⟨x27, hx28, h⟩ := bind_some h
       obtain ⟨hx29, hx28⟩ := rd_some hx28
       refine .gv (f_indexS (by rfl) sl24 hx29 (rd_map _ hx28)) rfl rfl rfl hc26 (.c rfl (.c rfl .nil)) .nil ?_
       refine .gv (f_loadR (z := (eGTx x27)) (by rfl) ty36) rfl rfl rfl hc26 (.c rfl .nil) .nil ?_
       refine .gv (f_neqT (by rfl) (fit36 _) (fit36 _) (by rfl) (by rfl) gd36 (eq_eGTx _ _)) rfl rfl rfl hc26 (.c rfl (.c rfl .nil)) .nil ?_
       refine .v (f_pick_false (by rfl) hc26) rfl (.c rfl (.c rfl .nil)) .nil ?_
       refine .nil (by kernel_rfl) ?_
       obtain rfl := Option.some.inj h
       refine aq_weak (s' := ⟨[(1, .d (.val (.int .u64 a1))), (2, .ptr 2 0 []), (5, .d (.val (.bool y1))), (6, .d (eL24 y6.1)), (8, .ptr 8 0 []), (9, .d (eL24 y8.2.1)), (11, .d (.val (.int .i64 z0_0))), (94, .d (.val (.bool (!(decide (y20.1 = x27))))))], [(2, .av (.d (eGLine a0))), (8, .av (.d (eGLine y8.1)))], []⟩) id hb0 (.keep rfl (.keep rfl (.keep rfl (.keep rfl (.keep rfl (.keep rfl (.keep rfl (.keep rfl .nil)))))))) (.keep rfl (.keep rfl .nil)) rfl (by rfl) ?_
       exact jq
     refine aq_then ?_
     refine aw_cond rfl (fun hc31 => ?_) (fun hc31 => ?_)
     · replace h := ite_t hc31 h
       refine aw_rs ?_
       refine .as rfl (by rfl) ?_
       refine .nil (aq_then ?_)
       refine aw_ret ?_
       refine aq_block_ret ?_
       refine aq_then_ret ?_
       obtain rfl := Option.some.inj h
       refine aq_weak (s' := ⟨[(4, .d (.val (.bool false)))], [], []⟩) id hb0 (.keep rfl .nil) .nil rfl (by rfl) ?_
       exact jq
     replace h := ite_f hc31 h
     refine aw_skip ?_
     refine aq_block ?_
     refine aq_then ?_
     refine aw_r ?_
     refine .mv rfl (by rfl) ?_
     refine .v (f_binI (by rfl) rfl (by rfl)) rfl (.c rfl (.c rfl .nil)) .nil ?_
     refine .as rfl (by rfl) ?_
     refine .nil ?_
     obtain rfl := Option.some.inj h
     refine aq_weak (s' := ⟨[(1, .d (.val (.int .u64 a1))), (2, .ptr 2 0 []), (5, .d (.val (.bool y1))), (6, .d (eL24 y6.1)), (8, .ptr 8 0 []), (9, .d (eL24 y8.2.1)), (11, .d (.val (.int .i64 (IntKind.i64.wrap (z0_0 + (1 : Int))))))], [(2, .av (.d (eGLine a0))), (8, .av (.d (eGLine y8.1)))], []⟩) id hb0 (.keep rfl (.keep rfl (.keep rfl (.keep rfl (.keep rfl (.keep rfl (.keep rfl .nil))))))) (.keep rfl (.keep rfl .nil)) rfl (by rfl) ?_
     exact jq
   replace h := ite_f hc19 h
   refine aw_exit ?_
   refine aq_then_exit ?_
   obtain rfl := Option.some.inj h
   refine aq_weak (s' := ⟨[(1, .d (.val (.int .u64 a1))), (2, .ptr 2 0 []), (5, .d (.val (.bool y1))), (6, .d (eL24 y6.1)), (8, .ptr 8 0 []), (9, .d (eL24 y8.2.1))], [(2, .av (.d (eGLine a0))), (8, .av (.d (eGLine y8.1)))], []⟩) id hb0 (.keep rfl (.keep rfl (.keep rfl (.keep rfl (.keep rfl (.keep rfl .nil)))))) (.keep rfl (.keep rfl .nil)) rfl (by rfl) ?_
   exact jq
 rcases o33 with j33 | j33
 · replace h := elim_l h
   refine aq_block_exit ?_
   refine aq_then ?_
   refine aw_rs ?_
   refine .mv rfl (by rfl) ?_
   refine .mv rfl (by rfl) ?_
   refine .v (f_lenD (n := (y6.1).length) (by rfl) sl24 rfl (by simp)) rfl (.c rfl .nil) .nil ?_
   refine .v (f_convI (by rfl) un3 un27) rfl (.c rfl .nil) .nil ?_
   refine .v (f_binI (by rfl) rfl (by rfl)) rfl (.c rfl (.c rfl .nil)) .nil ?_
   refine .as rfl (by rfl) ?_
   refine .nil (aq_then ?_)
   refine aw_rs ?_
   refine .v (f_load (n := 0) (o := 2) (off := 0) (p := []) (c := .d (eGLine a0)) (z := .d (eGLine a0)) (by rfl) rfl ty26 (by rfl)) rfl (.c rfl .nil) (.cons rfl .nil) ?_
   refine .mv rfl (by rfl) ?_
   obtain ⟨y35, hy36, h⟩ := bind_some h
   refine .v (f_callP hgl (by rfl) en19 rfl (by rfl) (by rfl) (by rfl) (F19_beadrolllaw19_find_ok hy36)) rfl (.c rfl (.c rfl .nil)) .nil ?_
   refine .mv rfl (by rfl) ?_
   refine .v (f_extract (by rfl) rfl) rfl (.c rfl .nil) .nil ?_
   refine .v (f_extract (by rfl) rfl) rfl (.c rfl .nil) .nil ?_
   refine .n (f_alloc 15 (by rfl) zr36) rfl .nil rfl ?_
   refine .s (f_store (n := 0) (o := 15) (off := 0) (p := []) (c := .d (eGTx (⟨(List.replicate 32 (0 : Int)), (List.replicate 32 (0 : Int)), (0 : Int), (0 : Int), (0 : Int), (List.replicate 32 (0 : Int))⟩ : GTx))) (old := .d (eGTx (⟨(List.replicate 32 (0 : Int)), (List.replicate 32 (0 : Int)), (0 : Int), (0 : Int), (0 : Int), (List.replicate 32 (0 : Int))⟩ : GTx))) (z := .d (eGTx y35.1)) (c' := .d (eGTx y35.1)) rfl rfl (by rfl) ty36 (by rfl)) rfl (.c rfl (.c rfl .nil)) (.cons rfl .nil) ?_
   refine .as rfl (by rfl) ?_
   refine .nil (aq_then ?_)
   refine aw_seq ?_
   obtain ⟨o54, ho55, h⟩ := bind_some h
   refine aw_join (.normal) ⟨[(4, .d (.val (.bool o54)))], [], []⟩ ?_ ?_
   · replace h := ho55
     refine aw_rd ?_
     refine .v (f_move (by rfl)) rfl (.c rfl .nil) .nil ?_
     refine .v (f_move (by rfl)) rfl (.c rfl .nil) .nil ?_
     rcases Bool.eq_false_or_eq_true y1 with hc37 | hc37
     · replace h := ite_t hc37 h
       refine .gv (f_move (by rfl)) rfl rfl rfl hc37 (.c rfl .nil) .nil ?_
       refine .gv (f_not (by rfl)) rfl rfl rfl hc37 (.c rfl .nil) .nil ?_
       refine .gv (f_move (by rfl)) rfl rfl rfl hc37 (.c rfl .nil) .nil ?_
       rcases Bool.eq_false_or_eq_true (!y35.2) with hc38 | hc38
       · replace h := ite_t hc38 h
         refine .off rfl rfl rfl hc38 rfl (by rfl) ?_
         refine .off rfl rfl rfl hc38 rfl (by rfl) ?_
         refine .off rfl rfl rfl hc38 rfl (by rfl) ?_
         refine .gv (f_pick_true (by rfl) hc38) rfl rfl rfl hc37 (.c rfl (.c rfl .nil)) .nil ?_
         refine .v (f_pick_true (by rfl) hc37) rfl (.c rfl (.c rfl .nil)) .nil ?_
         refine .v (f_move (by rfl)) rfl (.c rfl .nil) .nil ?_
         refine .gw (f_buildS0 1066 (by rfl) el24) rfl rfl rfl rfl .nil .nil (.cons rfl .nil) ?_
         refine .gv (f_move (by rfl)) rfl rfl rfl rfl (.c rfl .nil) .nil ?_
         obtain ⟨hb39, h⟩ := ifp h
         refine .gw (f_appendC (m := ((([] : List GTx) ++ y8.2.1)).length) (ys := (y8.2.1 : List GTx).map eGTx) (xs := (([] : List GTx)).map eGTx) (zs := ((([] : List GTx) ++ y8.2.1)).map eGTx) 1067 (by rfl) el24 (by simp) (by simp) (by simp [List.map_drop]) (by simp) (Nat.le_trans (Nat.mul_le_mul_right _ hb39) (by decide)) (Nat.le_trans hb39 (by decide)) srcD) rfl rfl rfl rfl (.c rfl (.c rfl .nil)) (.cons rfl .nil) (.cons rfl .nil) ?_
         refine .gv (f_fieldAddr (n := 32) (by rfl) fl26_1 (by decide)) rfl rfl rfl rfl (.c rfl .nil) .nil ?_
         refine .gv (f_load (n := 0) (o := 8) (off := (0 + 32)) (p := [1]) (c := .d (eGLine y8.1)) (z := .d (eL24 y8.1.Txs)) (by rfl) rfl ty24 (by rfl)) rfl rfl rfl rfl (.c rfl .nil) (.cons rfl .nil) ?_
         obtain ⟨hb40, h⟩ := ifp h
         refine .gw (f_appendC (m := (((([] : List GTx) ++ y8.2.1) ++ y8.1.Txs)).length) (ys := (y8.1.Txs : List GTx).map eGTx) (xs := ((([] : List GTx) ++ y8.2.1)).map eGTx) (zs := (((([] : List GTx) ++ y8.2.1) ++ y8.1.Txs)).map eGTx) 1068 (by rfl) el24 (by simp) (by simp) (by simp [List.map_drop]) (by simp) (Nat.le_trans (Nat.mul_le_mul_right _ hb40) (by decide)) (Nat.le_trans hb40 (by decide)) srcD) rfl rfl rfl rfl (.c rfl (.c rfl .nil)) (.cons rfl .nil) (.cons rfl .nil) ?_
         refine .gv (f_fieldAddr (n := 32) (by rfl) fl26_1 (by decide)) rfl rfl rfl rfl (.c rfl .nil) .nil ?_
         refine .gv (f_load (n := 0) (o := 2) (off := (0 + 32)) (p := [1]) (c := .d (eGLine a0)) (z := .d (eL24 a0.Txs)) (by rfl) rfl ty24 (by rfl)) rfl rfl rfl rfl (.c rfl .nil) (.cons rfl .nil) ?_
         obtain ⟨y41, hy42, h⟩ := bind_some h
         refine .gw (f_callH0 (xs := [.slc 1068 0 ((((([] : List GTx) ++ y8.2.1) ++ y8.1.Txs)).length) 99, .d (eL24 a0.Txs)]) (r := .d (.val (.bool y41))) (hr := []) (fun i => i) [(1068, (.arr 99 ((((([] : List GTx) ++ y8.2.1) ++ y8.1.Txs)).length) ((((([] : List GTx) ++ y8.2.1) ++ y8.1.Txs)).map eGTx)))] hgl (by rfl) (cal_f en20) rfl (by rfl) (by rfl) (by rfl) (by rfl) (by rfl) (.cons (.whole (.head _)) (.cons (.same _) .nil)) rfl rfl (flat_val) trivial (F20_beadrollref19_SameTxs_ok hy42)) rfl rfl rfl rfl (.c rfl (.c rfl .nil)) (.cons rfl .nil) .nil ?_
         refine .v (f_pick_true (by rfl) rfl) rfl (.c rfl (.c rfl .nil)) .nil ?_
         refine .v (f_move (by rfl)) rfl (.c rfl .nil) .nil ?_
         rcases Bool.eq_false_or_eq_true y41 with hc43 | hc43
         · replace h := ite_t hc43 h
           refine .gv (f_load (n := 0) (o := 8) (off := 0) (p := []) (c := .d (eGLine y8.1)) (z := .d (eGLine y8.1)) (by rfl) rfl ty26 (by rfl)) rfl rfl rfl hc43 (.c rfl .nil) (.cons rfl .nil) ?_
           obtain ⟨y44, hy45, h⟩ := bind_some h
           refine .gv (f_callP hgl (by rfl) en18 rfl (by rfl) (by rfl) (by rfl) (F18_queue_Check_ok hy45)) rfl rfl rfl hc43 (.c rfl .nil) .nil ?_
           refine .gv (f_binI (by rfl) rfl (by rfl)) rfl rfl rfl hc43 (.c rfl (.c rfl .nil)) .nil ?_
           refine .v (f_pick_true (by rfl) hc43) rfl (.c rfl (.c rfl .nil)) .nil ?_
           refine .v (f_assign (by rfl)) rfl (.c rfl .nil) .nil ?_
           refine .nil (by kernel_rfl) ?_
           obtain rfl := Option.some.inj h
           refine aq_weak (s' := ⟨[(4, .d (.val (.bool (y44 == (0 : Int)))))], [], []⟩) id hb0 (.keep rfl .nil) .nil rfl (by rfl) ?_
           exact jq
         replace h := ite_f hc43 h
         refine .off rfl rfl rfl hc43 rfl (by rfl) ?_
         refine .off rfl rfl rfl hc43 rfl (by rfl) ?_
         refine .off rfl rfl rfl hc43 rfl (by rfl) ?_
         refine .v (f_pick_false (by rfl) hc43) rfl (.c rfl (.c rfl .nil)) .nil ?_
         refine .v (f_assign (by rfl)) rfl (.c rfl .nil) .nil ?_
         refine .nil (by kernel_rfl) ?_
         obtain rfl := Option.some.inj h
         refine aq_weak (s' := ⟨[(4, .d (.val (.bool false)))], [], []⟩) id hb0 (.keep rfl .nil) .nil rfl (by rfl) ?_
         exact jq
       replace h := ite_f hc38 h
       refine .gv (f_move (by rfl)) rfl rfl rfl hc38 (.c rfl .nil) .nil ?_
       refine .gv (f_move (by rfl)) rfl rfl rfl hc38 (.c rfl .nil) .nil ?_
       refine .gv (f_binI (by rfl) rfl (by rfl)) rfl rfl rfl hc38 (.c rfl (.c rfl .nil)) .nil ?_
       refine .gv (f_pick_false (by rfl) hc38) rfl rfl rfl hc37 (.c rfl (.c rfl .nil)) .nil ?_
       refine .v (f_pick_true (by rfl) hc37) rfl (.c rfl (.c rfl .nil)) .nil ?_
       refine .v (f_move (by rfl)) rfl (.c rfl .nil) .nil ?_
       rcases Bool.eq_false_or_eq_true (decide ((IntKind.u64.wrap (a1 + (IntKind.u64.wrap ((y6.1).length : Int)))) < a1)) with hc46 | hc46
       · replace h := ite_t hc46 h
         refine .gw (f_buildS0 1069 (by rfl) el24) rfl rfl rfl hc46 .nil .nil (.cons rfl .nil) ?_
         refine .gv (f_move (by rfl)) rfl rfl rfl hc46 (.c rfl .nil) .nil ?_
         obtain ⟨hb47, h⟩ := ifp h
         refine .gw (f_appendC (m := ((([] : List GTx) ++ y8.2.1)).length) (ys := (y8.2.1 : List GTx).map eGTx) (xs := (([] : List GTx)).map eGTx) (zs := ((([] : List GTx) ++ y8.2.1)).map eGTx) 1070 (by rfl) el24 (by simp) (by simp) (by simp [List.map_drop]) (by simp) (Nat.le_trans (Nat.mul_le_mul_right _ hb47) (by decide)) (Nat.le_trans hb47 (by decide)) srcD) rfl rfl rfl hc46 (.c rfl (.c rfl .nil)) (.cons rfl .nil) (.cons rfl .nil) ?_
         refine .gv (f_fieldAddr (n := 32) (by rfl) fl26_1 (by decide)) rfl rfl rfl hc46 (.c rfl .nil) .nil ?_
         refine .gv (f_load (n := 0) (o := 8) (off := (0 + 32)) (p := [1]) (c := .d (eGLine y8.1)) (z := .d (eL24 y8.1.Txs)) (by rfl) rfl ty24 (by rfl)) rfl rfl rfl hc46 (.c rfl .nil) (.cons rfl .nil) ?_
         obtain ⟨hb48, h⟩ := ifp h
         refine .gw (f_appendC (m := (((([] : List GTx) ++ y8.2.1) ++ y8.1.Txs)).length) (ys := (y8.1.Txs : List GTx).map eGTx) (xs := ((([] : List GTx) ++ y8.2.1)).map eGTx) (zs := (((([] : List GTx) ++ y8.2.1) ++ y8.1.Txs)).map eGTx) 1071 (by rfl) el24 (by simp) (by simp) (by simp [List.map_drop]) (by simp) (Nat.le_trans (Nat.mul_le_mul_right _ hb48) (by decide)) (Nat.le_trans hb48 (by decide)) srcD) rfl rfl rfl hc46 (.c rfl (.c rfl .nil)) (.cons rfl .nil) (.cons rfl .nil) ?_
         refine .gv (f_fieldAddr (n := 32) (by rfl) fl26_1 (by decide)) rfl rfl rfl hc46 (.c rfl .nil) .nil ?_
         refine .gv (f_load (n := 0) (o := 2) (off := (0 + 32)) (p := [1]) (c := .d (eGLine a0)) (z := .d (eL24 a0.Txs)) (by rfl) rfl ty24 (by rfl)) rfl rfl rfl hc46 (.c rfl .nil) (.cons rfl .nil) ?_
         obtain ⟨y49, hy50, h⟩ := bind_some h
         refine .gw (f_callH0 (xs := [.slc 1071 0 ((((([] : List GTx) ++ y8.2.1) ++ y8.1.Txs)).length) 99, .d (eL24 a0.Txs)]) (r := .d (.val (.bool y49))) (hr := []) (fun i => i) [(1071, (.arr 99 ((((([] : List GTx) ++ y8.2.1) ++ y8.1.Txs)).length) ((((([] : List GTx) ++ y8.2.1) ++ y8.1.Txs)).map eGTx)))] hgl (by rfl) (cal_f en20) rfl (by rfl) (by rfl) (by rfl) (by rfl) (by rfl) (.cons (.whole (.head _)) (.cons (.same _) .nil)) rfl rfl (flat_val) trivial (F20_beadrollref19_SameTxs_ok hy50)) rfl rfl rfl hc46 (.c rfl (.c rfl .nil)) (.cons rfl .nil) .nil ?_
         refine .v (f_pick_true (by rfl) hc46) rfl (.c rfl (.c rfl .nil)) .nil ?_
         refine .v (f_move (by rfl)) rfl (.c rfl .nil) .nil ?_
         rcases Bool.eq_false_or_eq_true y49 with hc51 | hc51
         · replace h := ite_t hc51 h
           refine .gv (f_load (n := 0) (o := 8) (off := 0) (p := []) (c := .d (eGLine y8.1)) (z := .d (eGLine y8.1)) (by rfl) rfl ty26 (by rfl)) rfl rfl rfl hc51 (.c rfl .nil) (.cons rfl .nil) ?_
           obtain ⟨y52, hy53, h⟩ := bind_some h
           refine .gv (f_callP hgl (by rfl) en18 rfl (by rfl) (by rfl) (by rfl) (F18_queue_Check_ok hy53)) rfl rfl rfl hc51 (.c rfl .nil) .nil ?_
           refine .gv (f_binI (by rfl) rfl (by rfl)) rfl rfl rfl hc51 (.c rfl (.c rfl .nil)) .nil ?_
           refine .v (f_pick_true (by rfl) hc51) rfl (.c rfl (.c rfl .nil)) .nil ?_
           refine .v (f_assign (by rfl)) rfl (.c rfl .nil) .nil ?_
           refine .nil (by kernel_rfl) ?_
           obtain rfl := Option.some.inj h
           refine aq_weak (s' := ⟨[(4, .d (.val (.bool (y52 == (0 : Int)))))], [], []⟩) id hb0 (.keep rfl .nil) .nil rfl (by rfl) ?_
           exact jq
         replace h := ite_f hc51 h
         refine .off rfl rfl rfl hc51 rfl (by rfl) ?_
         refine .off rfl rfl rfl hc51 rfl (by rfl) ?_
         refine .off rfl rfl rfl hc51 rfl (by rfl) ?_
         refine .v (f_pick_false (by rfl) hc51) rfl (.c rfl (.c rfl .nil)) .nil ?_
         refine .v (f_assign (by rfl)) rfl (.c rfl .nil) .nil ?_
         refine .nil (by kernel_rfl) ?_
         obtain rfl := Option.some.inj h
         refine aq_weak (s' := ⟨[(4, .d (.val (.bool false)))], [], []⟩) id hb0 (.keep rfl .nil) .nil rfl (by rfl) ?_
         exact jq
       replace h := ite_f hc46 h
       refine .off rfl rfl rfl hc46 rfl (by rfl) ?_
       refine .off rfl rfl rfl hc46 rfl (by rfl) ?_
       refine .off rfl rfl rfl hc46 rfl (by rfl) ?_
       refine .off rfl rfl rfl hc46 rfl (by rfl) ?_
       refine .off rfl rfl rfl hc46 rfl (by rfl) ?_
       refine .off rfl rfl rfl hc46 rfl (by rfl) ?_
       refine .off rfl rfl rfl hc46 rfl (by rfl) ?_
       refine .off rfl rfl rfl hc46 rfl (by rfl) ?_
       refine .off rfl rfl rfl hc46 rfl (by rfl) ?_
       refine .v (f_pick_false (by rfl) hc46) rfl (.c rfl (.c rfl .nil)) .nil ?_
       refine .v (f_move (by rfl)) rfl (.c rfl .nil) .nil ?_
       refine .off rfl rfl rfl rfl rfl (by rfl) ?_
       refine .off rfl rfl rfl rfl rfl (by rfl) ?_
       refine .off rfl rfl rfl rfl rfl (by rfl) ?_
       refine .v (f_pick_false (by rfl) rfl) rfl (.c rfl (.c rfl .nil)) .nil ?_
       refine .v (f_assign (by rfl)) rfl (.c rfl .nil) .nil ?_
       refine .nil (by kernel_rfl) ?_
       obtain rfl := Option.some.inj h
       refine aq_weak (s' := ⟨[(4, .d (.val (.bool false)))], [], []⟩) id hb0 (.keep rfl .nil) .nil rfl (by rfl) ?_
       exact jq
     replace h := ite_f hc37 h
     refine .off rfl rfl rfl hc37 rfl (by rfl) ?_
     refine .off rfl rfl rfl hc37 rfl (by rfl) ?_
     refine .off rfl rfl rfl hc37 rfl (by rfl) ?_
     refine .offu rfl rfl rfl rfl (by rfl) ?_
     refine .offu rfl rfl rfl rfl (by rfl) ?_
     refine .offu rfl rfl rfl rfl (by rfl) ?_
     refine .off rfl rfl rfl hc37 rfl (by rfl) ?_
     refine .v (f_pick_false (by rfl) hc37) rfl (.c rfl (.c rfl .nil)) .nil ?_
     refine .v (f_move (by rfl)) rfl (.c rfl .nil) .nil ?_
     refine .off rfl rfl rfl rfl rfl (by rfl) ?_
     refine .off rfl rfl rfl rfl rfl (by rfl) ?_
     refine .off rfl rfl rfl rfl rfl (by rfl) ?_
     refine .off rfl rfl rfl rfl rfl (by rfl) ?_
     refine .off rfl rfl rfl rfl rfl (by rfl) ?_
     refine .off rfl rfl rfl rfl rfl (by rfl) ?_
     refine .off rfl rfl rfl rfl rfl (by rfl) ?_
     refine .off rfl rfl rfl rfl rfl (by rfl) ?_
     refine .off rfl rfl rfl rfl rfl (by rfl) ?_
     refine .v (f_pick_false (by rfl) rfl) rfl (.c rfl (.c rfl .nil)) .nil ?_
     refine .v (f_move (by rfl)) rfl (.c rfl .nil) .nil ?_
     refine .off rfl rfl rfl rfl rfl (by rfl) ?_
     refine .off rfl rfl rfl rfl rfl (by rfl) ?_
     refine .off rfl rfl rfl rfl rfl (by rfl) ?_
     refine .v (f_pick_false (by rfl) rfl) rfl (.c rfl (.c rfl .nil)) .nil ?_
     refine .v (f_assign (by rfl)) rfl (.c rfl .nil) .nil ?_
     refine .nil (by kernel_rfl) ?_
     obtain rfl := Option.some.inj h
     refine aq_weak (s' := ⟨[(4, .d (.val (.bool false)))], [], []⟩) id hb0 (.keep rfl .nil) .nil rfl (by rfl) ?_
     exact jq
   refine aq_then ?_
   refine aw_ret ?_
   obtain rfl := Option.some.inj h
   exact aq_finp hb0 rfl (.tmp rfl (by rfl) .nil) (by rfl) rfl ⟨rfl, rfl⟩
 replace h := elim_r h
 refine aq_block_ret ?_
 refine aq_then_ret ?_
 obtain rfl := Option.some.inj h
 exact aq_finp hb0 rfl (.tmp rfl (by rfl) .nil) (by rfl) rfl ⟨rfl, rfl⟩
end Go.Proofs.YtonfljoibcnlgaaDoor
