/-
  PRINTED by wip/pr3.py: for each Go function a Lean function with the same answers, and the proof.
-/
import Derived.Test.YtonfljoibcnlgaaDoorXb1
namespace Go.Proofs.YtonfljoibcnlgaaDoor
open Bd
set_option maxRecDepth 10000

/- 50: beadroll/shard.Submit -/
def F50_shard_Submit (n : Nat) (a0 : GShard) (a1 : Int) (a2 : Int) (a3 : GTx) : Option (GShard × (List GTx) × Int) :=
  ((F52_shard_Check n a0).bind fun (y1 : Int) => (if (y1 != (0 : Int)) = true then some ((⟨[]⟩ : GShard), [], (8 : Int)) else ((F38_tx_Check n a3).bind fun (y4 : Int) => (if (y4 != (0 : Int)) = true then some ((⟨[]⟩ : GShard), [], (110 : Int)) else (if (decide (a3.Nonce < a2)) = true then some ((⟨[]⟩ : GShard), [], (200 : Int)) else (((if (decide ((IntKind.u64.wrap (a3.Nonce - a2)) ≥ (16 : Int))) = true then some true else some (a3.Nonce == (18446744073709551615 : Int)))).bind fun (o9 : Bool) => (if o9 = true then some ((⟨[]⟩ : GShard), [], (201 : Int)) else ((F61_shard_Twin n a0).bind fun (y11 : List GLine) => ((F39_tx_From n a3).bind fun (y13 : (List Int)) => ((F93_shard_part_line_ec6 n y13 y11).bind fun (y15 : GLine) => ((F34_queue_Put n y15 a3).bind fun (y17 : GLine × (List GTx) × Int) => (((if (y17.2.2 != (0 : Int)) = true then some (y17.2.2 != (9 : Int)) else some false)).bind fun (o20 : Bool) => (if o20 = true then some ((⟨[]⟩ : GShard), [], y17.2.2) else (if (y17.2.2 == (9 : Int)) = true then some ((⟨[]⟩ : GShard), [], (9 : Int)) else (((if (((y17.2.1).length : Int) == (0 : Int)) = true then ((F53_shard_Count n a0).bind fun (y24 : Int) => some (decide (y24 ≥ a1))) else some false)).bind fun (o26 : Bool) => (if o26 = true then ((F94_shard_part_worst_647 n a3 y11).bind fun (y28 : Int) => (if (decide (y28 < (0 : Int))) = true then some ((⟨[]⟩ : GShard), [], (9 : Int)) else ((rd y11 y28).bind fun (x31 : GLine) => ((rd x31.Txs (IntKind.i64.wrap (((x31.Txs).length : Int) - (1 : Int)))).bind fun (x34 : GTx) => (if 0 ≤ (0 : Int) ∧ (0 : Int) ≤ (IntKind.i64.wrap (((x31.Txs).length : Int) - (1 : Int))) ∧ (IntKind.i64.wrap (((x31.Txs).length : Int) - (1 : Int))) ≤ ((x31.Txs).length : Int) then ((F95_shard_part_set_ddb n ({ x31 with Txs := ((x31.Txs).take ((IntKind.i64.wrap (((x31.Txs).length : Int) - (1 : Int)))).toNat) }) y11).bind fun (y38 : List GLine) => ((F95_shard_part_set_ddb n y17.1 y38).bind fun (y40 : List GLine) => some ((⟨y40⟩ : GShard), ([x34] : List GTx), (0 : Int)))) else none))))) else ((F95_shard_part_set_ddb n y17.1 y11).bind fun (y42 : List GLine) => some ((⟨y42⟩ : GShard), y17.2.1, (0 : Int)))))))))))))))))))
theorem F50_shard_Submit_ok {n : Nat} {a0 : GShard} {a1 : Int} {a2 : Int} {a3 : GTx} {r : GShard × (List GTx) × Int} (h : F50_shard_Submit n a0 a1 a2 a3 = some r) :
    ACall Tryd.prog GS 50 [.d (eGShard a0), .d (.val (.int .i64 a1)), .d (.val (.int .u64 a2)), .d (eGTx a3)] [] (fun r' hp' => r' = .res [.d (eGShard r.1), .d (eL24 r.2.1), .d (.val (.int .i64 r.2.2))] ∧ hp' = []) := by
 refine acall_of_body mixed Tryd.func50 rfl (by rfl) ?_
 intro C hro hgl hb0
 unfold F50_shard_Submit at h
 refine aw_rs ?_
 refine .n (f_box 4 (by rfl) (by rfl)) rfl (.c rfl .nil) rfl ?_
 refine .n (f_box 7 (by rfl) (by rfl)) rfl (.c rfl .nil) rfl ?_
 refine .n (f_alloc 8 (by rfl) zrv74) rfl .nil rfl ?_
 refine .a rfl ?_
 refine .a rfl ?_
 refine .nil (aq_then ?_)
 refine aw_seq ?_
 refine aw_block ?_
 refine aw_rs ?_
 refine .l 4 0 [] (.d (eGShard a0)) (.d (eGShard a0)) ty74 ?_
 obtain ⟨y1, hy2, h⟩ := bind_some h
 refine .v (f_callP hgl (by rfl) en52 rfl (by rfl) (by rfl) (by rfl) (F52_shard_Check_ok hy2)) rfl (.c rfl .nil) .nil ?_
 refine .b rfl rfl rfl ?_
 refine .a rfl ?_
 refine .nil (aq_then ?_)
 refine aw_cond rfl (fun hc3 => ?_) (fun hc3 => ?_)
 ·replace h := ite_t hc3 h
  refine aw_rs ?_
  refine .l 8 0 [] (.st [.d (.val (.slice none 0 0))]) (.st [.d (.val (.slice none 0 0))]) ty74 ?_
  refine .s (f_store (n := 0) (o := 8) (off := 0) (p := []) (c := .st [.d (.val (.slice none 0 0))]) (old := .st [.d (.val (.slice none 0 0))]) (z := .st [.d (.val (.slice none 0 0))]) (c' := .st [.d (.val (.slice none 0 0))]) rfl rfl (by rfl) ty74 (by rfl)) rfl (.c rfl (.c rfl .nil)) (.cons rfl .nil) ?_
  refine .a rfl ?_
  refine .a rfl ?_
  refine .nil (aq_then ?_)
  refine aw_ret ?_
  refine aq_block_ret ?_
  refine aq_then_ret ?_
  obtain rfl := Option.some.inj h
  refine aq_freezeH [] [(8, .ptr 8 0 []), (9, .d (eL24 ([]))), (10, .d (.val (.int .i64 (8 : Int))))] [(8, .av (.d (eGShard (⟨[]⟩ : GShard))))] .nil (.keep rfl (.cons rfl .nil (.keep rfl .nil))) (.cons rfl (by rfl) (.st (.cons .nil .nil)) .nil) ?_
  exact aq_finp hb0 rfl (.cell rfl rfl ty74 (by rfl) (.tmp rfl (by rfl) (.tmp rfl (by rfl) .nil))) (by rfl) rfl ⟨rfl, rfl⟩
 replace h := ite_f hc3 h
 refine aw_rs ?_
 refine .l 7 0 [] (.d (eGTx a3)) (.d (eGTx a3)) ty36 ?_
 obtain ⟨y4, hy5, h⟩ := bind_some h
 refine .v (f_callP hgl (by rfl) en38 rfl (by rfl) (by rfl) (by rfl) (F38_tx_Check_ok hy5)) rfl (.c rfl .nil) .nil ?_
 refine .b rfl rfl rfl ?_
 refine .a rfl ?_
 refine .nil (aq_then ?_)
 refine aw_cond rfl (fun hc6 => ?_) (fun hc6 => ?_)
 ·replace h := ite_t hc6 h
  refine aw_rs ?_
  refine .l 8 0 [] (.st [.d (.val (.slice none 0 0))]) (.st [.d (.val (.slice none 0 0))]) ty74 ?_
  refine .s (f_store (n := 0) (o := 8) (off := 0) (p := []) (c := .st [.d (.val (.slice none 0 0))]) (old := .st [.d (.val (.slice none 0 0))]) (z := .st [.d (.val (.slice none 0 0))]) (c' := .st [.d (.val (.slice none 0 0))]) rfl rfl (by rfl) ty74 (by rfl)) rfl (.c rfl (.c rfl .nil)) (.cons rfl .nil) ?_
  refine .a rfl ?_
  refine .a rfl ?_
  refine .nil (aq_then ?_)
  refine aw_ret ?_
  refine aq_block_ret ?_
  refine aq_then_ret ?_
  obtain rfl := Option.some.inj h
  refine aq_freezeH [] [(8, .ptr 8 0 []), (9, .d (eL24 ([]))), (10, .d (.val (.int .i64 (110 : Int))))] [(8, .av (.d (eGShard (⟨[]⟩ : GShard))))] .nil (.keep rfl (.cons rfl .nil (.keep rfl .nil))) (.cons rfl (by rfl) (.st (.cons .nil .nil)) .nil) ?_
  exact aq_finp hb0 rfl (.cell rfl rfl ty74 (by rfl) (.tmp rfl (by rfl) (.tmp rfl (by rfl) .nil))) (by rfl) rfl ⟨rfl, rfl⟩
 replace h := ite_f hc6 h
 refine aw_rs ?_
 refine .v (f_fieldAddr (n := 64) (by rfl) fl36_2 (by decide)) rfl (.c rfl .nil) .nil ?_
 refine .l 7 (0 + 64) [2] (.d (eGTx a3)) (.d (.val (.int .u64 a3.Nonce))) ty27 ?_
 refine .m rfl ?_
 refine .b rfl rfl rfl ?_
 refine .a rfl ?_
 refine .nil (aq_then ?_)
 refine aw_cond rfl (fun hc7 => ?_) (fun hc7 => ?_)
 ·replace h := ite_t hc7 h
  refine aw_rs ?_
  refine .l 8 0 [] (.st [.d (.val (.slice none 0 0))]) (.st [.d (.val (.slice none 0 0))]) ty74 ?_
  refine .s (f_store (n := 0) (o := 8) (off := 0) (p := []) (c := .st [.d (.val (.slice none 0 0))]) (old := .st [.d (.val (.slice none 0 0))]) (z := .st [.d (.val (.slice none 0 0))]) (c' := .st [.d (.val (.slice none 0 0))]) rfl rfl (by rfl) ty74 (by rfl)) rfl (.c rfl (.c rfl .nil)) (.cons rfl .nil) ?_
  refine .a rfl ?_
  refine .a rfl ?_
  refine .nil (aq_then ?_)
  refine aw_ret ?_
  refine aq_block_ret ?_
  refine aq_then_ret ?_
  obtain rfl := Option.some.inj h
  refine aq_freezeH [] [(8, .ptr 8 0 []), (9, .d (eL24 ([]))), (10, .d (.val (.int .i64 (200 : Int))))] [(8, .av (.d (eGShard (⟨[]⟩ : GShard))))] .nil (.keep rfl (.cons rfl .nil (.keep rfl .nil))) (.cons rfl (by rfl) (.st (.cons .nil .nil)) .nil) ?_
  exact aq_finp hb0 rfl (.cell rfl rfl ty74 (by rfl) (.tmp rfl (by rfl) (.tmp rfl (by rfl) .nil))) (by rfl) rfl ⟨rfl, rfl⟩
 replace h := ite_f hc7 h
 refine aw_seq ?_
 obtain ⟨o9, ho46, h⟩ := bind_some h
 refine aw_join (.normal) ⟨[(1, .d (.val (.int .i64 a1))), (4, .ptr 4 0 []), (7, .ptr 7 0 []), (8, .ptr 8 0 []), (33, .d (.val (.bool o9)))], [(4, .av (.d (eGShard a0))), (7, .av (.d (eGTx a3))), (8, .av (.st [.d (.val (.slice none 0 0))]))], []⟩ ?_ ?_
 ·replace h := ho46
  refine aw_r ?_
  refine .v (f_fieldAddr (n := 64) (by rfl) fl36_2 (by decide)) rfl (.c rfl .nil) .nil ?_
  refine .l 7 (0 + 64) [2] (.d (eGTx a3)) (.d (.val (.int .u64 a3.Nonce))) ty27 ?_
  refine .m rfl ?_
  refine .b rfl rfl rfl ?_
  refine .b rfl rfl rfl ?_
  refine .m rfl ?_
  rcases Bool.eq_false_or_eq_true (decide ((IntKind.u64.wrap (a3.Nonce - a2)) ≥ (16 : Int))) with hc8 | hc8
  ·replace h := ite_t hc8 h
   refine .off rfl rfl rfl hc8 rfl (by rfl) ?_
   refine .off rfl rfl rfl hc8 rfl (by rfl) ?_
   refine .off rfl rfl rfl hc8 rfl (by rfl) ?_
   refine .v (f_pick_true (by rfl) hc8) rfl (.c rfl (.c rfl .nil)) .nil ?_
   refine .a rfl ?_
   refine .nil ?_
   obtain rfl := Option.some.inj h
   refine aq_weak (s' := ⟨[(1, .d (.val (.int .i64 a1))), (4, .ptr 4 0 []), (7, .ptr 7 0 []), (8, .ptr 8 0 []), (33, .d (.val (.bool true)))], [(4, .av (.d (eGShard a0))), (7, .av (.d (eGTx a3))), (8, .av (.st [.d (.val (.slice none 0 0))]))], []⟩) id hb0 (.keep rfl (.keep rfl (.keep rfl (.keep rfl (.keep rfl .nil))))) (.keep rfl (.keep rfl (.keep rfl .nil))) rfl (by rfl) ?_
   exact jq
  replace h := ite_f hc8 h
  refine .gv (f_fieldAddr (n := 64) (by rfl) fl36_2 (by decide)) rfl rfl rfl hc8 (.c rfl .nil) .nil ?_
  refine .gv (f_load (n := 0) (o := 7) (off := (0 + 64)) (p := [2]) (c := .d (eGTx a3)) (z := .d (.val (.int .u64 a3.Nonce))) (by rfl) rfl ty27 (by rfl)) rfl rfl rfl hc8 (.c rfl .nil) (.cons rfl .nil) ?_
  refine .gv (f_binI (by rfl) rfl (by rfl)) rfl rfl rfl hc8 (.c rfl (.c rfl .nil)) .nil ?_
  refine .v (f_pick_false (by rfl) hc8) rfl (.c rfl (.c rfl .nil)) .nil ?_
  refine .a rfl ?_
  refine .nil ?_
  obtain rfl := Option.some.inj h
  refine aq_weak (s' := ⟨[(1, .d (.val (.int .i64 a1))), (4, .ptr 4 0 []), (7, .ptr 7 0 []), (8, .ptr 8 0 []), (33, .d (.val (.bool (a3.Nonce == (18446744073709551615 : Int)))))], [(4, .av (.d (eGShard a0))), (7, .av (.d (eGTx a3))), (8, .av (.st [.d (.val (.slice none 0 0))]))], []⟩) id hb0 (.keep rfl (.keep rfl (.keep rfl (.keep rfl (.keep rfl .nil))))) (.keep rfl (.keep rfl (.keep rfl .nil))) rfl (by rfl) ?_
  exact jq
 refine aq_then ?_
 refine aw_cond rfl (fun hc10 => ?_) (fun hc10 => ?_)
 ·replace h := ite_t hc10 h
  refine aw_rs ?_
  refine .l 8 0 [] (.st [.d (.val (.slice none 0 0))]) (.st [.d (.val (.slice none 0 0))]) ty74 ?_
  refine .s (f_store (n := 0) (o := 8) (off := 0) (p := []) (c := .st [.d (.val (.slice none 0 0))]) (old := .st [.d (.val (.slice none 0 0))]) (z := .st [.d (.val (.slice none 0 0))]) (c' := .st [.d (.val (.slice none 0 0))]) rfl rfl (by rfl) ty74 (by rfl)) rfl (.c rfl (.c rfl .nil)) (.cons rfl .nil) ?_
  refine .a rfl ?_
  refine .a rfl ?_
  refine .nil (aq_then ?_)
  refine aw_ret ?_
  refine aq_block_ret ?_
  refine aq_then_ret ?_
  obtain rfl := Option.some.inj h
  refine aq_freezeH [] [(8, .ptr 8 0 []), (9, .d (eL24 ([]))), (10, .d (.val (.int .i64 (201 : Int))))] [(8, .av (.d (eGShard (⟨[]⟩ : GShard))))] .nil (.keep rfl (.cons rfl .nil (.keep rfl .nil))) (.cons rfl (by rfl) (.st (.cons .nil .nil)) .nil) ?_
  exact aq_finp hb0 rfl (.cell rfl rfl ty74 (by rfl) (.tmp rfl (by rfl) (.tmp rfl (by rfl) .nil))) (by rfl) rfl ⟨rfl, rfl⟩
 replace h := ite_f hc10 h
 refine aw_skip ?_
 refine aq_block ?_
 refine aq_then ?_
 refine aw_rs ?_
 refine .l 4 0 [] (.d (eGShard a0)) (.d (eGShard a0)) ty74 ?_
 obtain ⟨y11, hy12, h⟩ := bind_some h
 refine .w (f_callG (xs := [.d (eGShard a0)]) (r := .st [.slc 1069 0 ((y11).length) 33]) (hw := [(1068, .av (.st [.slc 1069 0 ((y11).length) 33])), (1069, .av (.d (.arr 33 ((y11).length) ((y11).map eGLine))))]) (fun i => bif Nat.beq i 1066 then 1069 else (bif Nat.beq i 2 then 1068 else i)) [] hgl (by rfl) (cal_f en61) rfl (by rfl) (by rfl) (by rfl) (by rfl) (.cons (.same _) .nil) rfl rfl rfl rfl (F61_shard_Twin_ok hy12)) rfl (.c rfl .nil) .nil (.cons rfl (.cons rfl .nil)) ?_
 refine .v (f_build (xs := [(0, .st [.slc 1069 0 ((y11).length) 33])]) (z' := .st [.st [.slc 1069 0 ((y11).length) 33]]) (by rfl) zrv132 ag132 rfl (by rfl) ⟨_, _, _, rfl, pl132_0, rfl, rfl, trivial⟩ (by rfl) (by rfl)) rfl (.c rfl .nil) .nil ?_
 refine .n (f_box 48 (by rfl) (by rfl)) rfl (.c rfl .nil) rfl ?_
 refine .a rfl ?_
 refine .nil (aq_then ?_)
 refine aw_rds ?_
 refine .v (f_move (by rfl)) rfl (.c rfl .nil) .nil ?_
 refine .v (f_load (n := 0) (o := 7) (off := 0) (p := []) (c := .d (eGTx a3)) (z := .d (eGTx a3)) (by rfl) rfl ty36 (by rfl)) rfl (.c rfl .nil) (.cons rfl .nil) ?_
 obtain ⟨y13, hy14, h⟩ := bind_some h
 refine .v (f_callP hgl (by rfl) en39 rfl (by rfl) (by rfl) (by rfl) (F39_tx_From_ok hy14)) rfl (.c rfl .nil) .nil ?_
 obtain ⟨y15, hy16, h⟩ := bind_some h
 refine .w (f_callG (xs := [.ptr 48 0 [], .d (eA22 y13)]) (r := .d (eGLine y15)) (hw := [(1070, .av (.d (eGLine y15))), (48, .av (.st [.st [.slc 1069 0 ((y11).length) 33]])), (1069, .av (.d (.arr 33 ((y11).length) ((y11).map eGLine))))]) (fun i => bif Nat.beq i 4 then 1070 else (bif Nat.beq i 1 then 1069 else (bif Nat.beq i 0 then 48 else i))) [] hgl (by rfl) (cal_f en93) rfl (by rfl) (by rfl) (by rfl) (by rfl) (.cons (.same _) (.cons (.same _) .nil)) rfl rfl rfl rfl (F93_shard_part_line_ec6_ok hy16)) rfl (.c rfl (.c rfl .nil)) (.cons rfl (.cons rfl .nil)) (.cons rfl .nil) ?_
 refine .v (f_load (n := 0) (o := 7) (off := 0) (p := []) (c := .d (eGTx a3)) (z := .d (eGTx a3)) (by rfl) rfl ty36 (by rfl)) rfl (.c rfl .nil) (.cons rfl .nil) ?_
 obtain ⟨y17, hy18, h⟩ := bind_some h
 refine .v (f_callP hgl (by rfl) en34 rfl (by rfl) (by rfl) (by rfl) (F34_queue_Put_ok hy18)) rfl (.c rfl (.c rfl .nil)) .nil ?_
 refine .v (f_move (by rfl)) rfl (.c rfl .nil) .nil ?_
 refine .v (f_extract (by rfl) rfl) rfl (.c rfl .nil) .nil ?_
 refine .v (f_extract (by rfl) rfl) rfl (.c rfl .nil) .nil ?_
 refine .v (f_extract (by rfl) rfl) rfl (.c rfl .nil) .nil ?_
 refine .n (f_alloc 12 (by rfl) zrv26) rfl .nil rfl ?_
 refine .s (f_store (n := 0) (o := 12) (off := 0) (p := []) (c := .st [.d (eA22 (List.replicate 32 (0 : Int))), .d (.val (.slice none 0 0))]) (old := .st [.d (eA22 (List.replicate 32 (0 : Int))), .d (.val (.slice none 0 0))]) (z := .d (eGLine y17.1)) (c' := .d (eGLine y17.1)) rfl rfl (by rfl) ty26 (by rfl)) rfl (.c rfl (.c rfl .nil)) (.cons rfl .nil) ?_
 refine .v (f_assign (by rfl)) rfl (.c rfl .nil) .nil ?_
 refine .v (f_assign (by rfl)) rfl (.c rfl .nil) .nil ?_
 refine .nil (by kernel_rfl) ?_
 refine aw_seq ?_
 refine aw_seq ?_
 obtain ⟨o20, ho45, h⟩ := bind_some h
 refine aw_join (.normal) ⟨[(1, .d (.val (.int .i64 a1))), (4, .ptr 4 0 []), (7, .ptr 7 0 []), (8, .ptr 8 0 []), (10, .d (.val (.int .i64 y17.2.2))), (11, .ptr 48 0 []), (12, .ptr 12 0 []), (13, .d (eL24 y17.2.1)), (64, .d (.val (.bool o20)))], [(4, .av (.d (eGShard a0))), (7, .av (.d (eGTx a3))), (8, .av (.st [.d (.val (.slice none 0 0))])), (48, .av (.st [.st [.slc 1069 0 ((y11).length) 33]])), (12, .av (.d (eGLine y17.1))), (1069, .av (.d (.arr 33 ((y11).length) ((y11).map eGLine))))], []⟩ ?_ ?_
 ·replace h := ho45
  refine aw_r ?_
  refine .m rfl ?_
  refine .b rfl rfl rfl ?_
  refine .m rfl ?_
  rcases Bool.eq_false_or_eq_true (y17.2.2 != (0 : Int)) with hc19 | hc19
  ·replace h := ite_t hc19 h
   refine .gv (f_move (by rfl)) rfl rfl rfl hc19 (.c rfl .nil) .nil ?_
   refine .gv (f_binI (by rfl) rfl (by rfl)) rfl rfl rfl hc19 (.c rfl (.c rfl .nil)) .nil ?_
   refine .v (f_pick_true (by rfl) hc19) rfl (.c rfl (.c rfl .nil)) .nil ?_
   refine .nil ?_
   obtain rfl := Option.some.inj h
   refine aq_weak (s' := ⟨[(1, .d (.val (.int .i64 a1))), (4, .ptr 4 0 []), (7, .ptr 7 0 []), (8, .ptr 8 0 []), (10, .d (.val (.int .i64 y17.2.2))), (11, .ptr 48 0 []), (12, .ptr 12 0 []), (13, .d (eL24 y17.2.1)), (64, .d (.val (.bool (y17.2.2 != (9 : Int)))))], [(4, .av (.d (eGShard a0))), (7, .av (.d (eGTx a3))), (8, .av (.st [.d (.val (.slice none 0 0))])), (48, .av (.st [.st [.slc 1069 0 ((y11).length) 33]])), (12, .av (.d (eGLine y17.1))), (1069, .av (.d (.arr 33 ((y11).length) ((y11).map eGLine))))], []⟩) id hb0 (.keep rfl (.keep rfl (.keep rfl (.keep rfl (.keep rfl (.keep rfl (.keep rfl (.keep rfl (.keep rfl .nil))))))))) (.keep rfl (.keep rfl (.keep rfl (.keep rfl (.keep rfl (.keep rfl .nil)))))) rfl (by rfl) ?_
   exact jq
  replace h := ite_f hc19 h
  refine .off rfl rfl rfl hc19 rfl (by rfl) ?_
  refine .off rfl rfl rfl hc19 rfl (by rfl) ?_
  refine .v (f_pick_false (by rfl) hc19) rfl (.c rfl (.c rfl .nil)) .nil ?_
  refine .nil ?_
  obtain rfl := Option.some.inj h
  refine aq_weak (s' := ⟨[(1, .d (.val (.int .i64 a1))), (4, .ptr 4 0 []), (7, .ptr 7 0 []), (8, .ptr 8 0 []), (10, .d (.val (.int .i64 y17.2.2))), (11, .ptr 48 0 []), (12, .ptr 12 0 []), (13, .d (eL24 y17.2.1)), (64, .d (.val (.bool false)))], [(4, .av (.d (eGShard a0))), (7, .av (.d (eGTx a3))), (8, .av (.st [.d (.val (.slice none 0 0))])), (48, .av (.st [.st [.slc 1069 0 ((y11).length) 33]])), (12, .av (.d (eGLine y17.1))), (1069, .av (.d (.arr 33 ((y11).length) ((y11).map eGLine))))], []⟩) id hb0 (.keep rfl (.keep rfl (.keep rfl (.keep rfl (.keep rfl (.keep rfl (.keep rfl (.keep rfl (.keep rfl .nil))))))))) (.keep rfl (.keep rfl (.keep rfl (.keep rfl (.keep rfl (.keep rfl .nil)))))) rfl (by rfl) ?_
  exact jq
 refine aq_then ?_
 refine aw_cond rfl (fun hc21 => ?_) (fun hc21 => ?_)
 ·replace h := ite_t hc21 h
  refine aw_rs ?_
  refine .l 8 0 [] (.st [.d (.val (.slice none 0 0))]) (.st [.d (.val (.slice none 0 0))]) ty74 ?_
  refine .m rfl ?_
  refine .s (f_store (n := 0) (o := 8) (off := 0) (p := []) (c := .st [.d (.val (.slice none 0 0))]) (old := .st [.d (.val (.slice none 0 0))]) (z := .st [.d (.val (.slice none 0 0))]) (c' := .st [.d (.val (.slice none 0 0))]) rfl rfl (by rfl) ty74 (by rfl)) rfl (.c rfl (.c rfl .nil)) (.cons rfl .nil) ?_
  refine .a rfl ?_
  refine .a rfl ?_
  refine .nil (aq_then ?_)
  refine aw_ret ?_
  refine aq_then_ret ?_
  obtain rfl := Option.some.inj h
  refine aq_freezeH [] [(8, .ptr 8 0 []), (10, .d (.val (.int .i64 y17.2.2))), (9, .d (eL24 ([])))] [(8, .av (.d (eGShard (⟨[]⟩ : GShard))))] .nil (.keep rfl (.keep rfl (.cons rfl .nil .nil))) (.cons rfl (by rfl) (.st (.cons .nil .nil)) .nil) ?_
  exact aq_finp hb0 rfl (.cell rfl rfl ty74 (by rfl) (.tmp rfl (by rfl) (.tmp rfl (by rfl) .nil))) (by rfl) rfl ⟨rfl, rfl⟩
 replace h := ite_f hc21 h
 refine aw_skip ?_
 refine aq_then ?_
 refine aw_seq ?_
 refine aw_rs ?_
 refine .m rfl ?_
 refine .b rfl rfl rfl ?_
 refine .nil (aq_then ?_)
 refine aw_cond rfl (fun hc22 => ?_) (fun hc22 => ?_)
 ·replace h := ite_t hc22 h
  refine aw_rs ?_
  refine .l 8 0 [] (.st [.d (.val (.slice none 0 0))]) (.st [.d (.val (.slice none 0 0))]) ty74 ?_
  refine .s (f_store (n := 0) (o := 8) (off := 0) (p := []) (c := .st [.d (.val (.slice none 0 0))]) (old := .st [.d (.val (.slice none 0 0))]) (z := .st [.d (.val (.slice none 0 0))]) (c' := .st [.d (.val (.slice none 0 0))]) rfl rfl (by rfl) ty74 (by rfl)) rfl (.c rfl (.c rfl .nil)) (.cons rfl .nil) ?_
  refine .a rfl ?_
  refine .a rfl ?_
  refine .nil (aq_then ?_)
  refine aw_ret ?_
  refine aq_then_ret ?_
  obtain rfl := Option.some.inj h
  refine aq_freezeH [] [(8, .ptr 8 0 []), (10, .d (.val (.int .i64 (9 : Int)))), (9, .d (eL24 ([])))] [(8, .av (.d (eGShard (⟨[]⟩ : GShard))))] .nil (.keep rfl (.keep rfl (.cons rfl .nil .nil))) (.cons rfl (by rfl) (.st (.cons .nil .nil)) .nil) ?_
  exact aq_finp hb0 rfl (.cell rfl rfl ty74 (by rfl) (.tmp rfl (by rfl) (.tmp rfl (by rfl) .nil))) (by rfl) rfl ⟨rfl, rfl⟩
 replace h := ite_f hc22 h
 refine aw_skip ?_
 refine aq_then ?_
 refine aw_seq ?_
 refine aw_seq ?_
 obtain ⟨o26, ho44, h⟩ := bind_some h
 refine aw_join (.normal) ⟨[(7, .ptr 7 0 []), (8, .ptr 8 0 []), (11, .ptr 48 0 []), (12, .ptr 12 0 []), (13, .d (eL24 y17.2.1)), (78, .d (.val (.bool o26)))], [(7, .av (.d (eGTx a3))), (8, .av (.st [.d (.val (.slice none 0 0))])), (48, .av (.st [.st [.slc 1069 0 ((y11).length) 33]])), (12, .av (.d (eGLine y17.1))), (1069, .av (.d (.arr 33 ((y11).length) ((y11).map eGLine))))], []⟩ ?_ ?_
 ·replace h := ho44
  refine aw_r ?_
  refine .m rfl ?_
  refine .v (f_lenD (n := (y17.2.1).length) (by rfl) sl24 rfl (by simp)) rfl (.c rfl .nil) .nil ?_
  refine .b rfl rfl rfl ?_
  refine .m rfl ?_
  rcases Bool.eq_false_or_eq_true (((y17.2.1).length : Int) == (0 : Int)) with hc23 | hc23
  ·replace h := ite_t hc23 h
   refine .gv (f_load (n := 0) (o := 4) (off := 0) (p := []) (c := .d (eGShard a0)) (z := .d (eGShard a0)) (by rfl) rfl ty74 (by rfl)) rfl rfl rfl hc23 (.c rfl .nil) (.cons rfl .nil) ?_
   obtain ⟨y24, hy25, h⟩ := bind_some h
   refine .gv (f_callP hgl (by rfl) en53 rfl (by rfl) (by rfl) (by rfl) (F53_shard_Count_ok hy25)) rfl rfl rfl hc23 (.c rfl .nil) .nil ?_
   refine .gv (f_move (by rfl)) rfl rfl rfl hc23 (.c rfl .nil) .nil ?_
   refine .gv (f_binI (by rfl) rfl (by rfl)) rfl rfl rfl hc23 (.c rfl (.c rfl .nil)) .nil ?_
   refine .v (f_pick_true (by rfl) hc23) rfl (.c rfl (.c rfl .nil)) .nil ?_
   refine .nil ?_
   obtain rfl := Option.some.inj h
   refine aq_weak (s' := ⟨[(7, .ptr 7 0 []), (8, .ptr 8 0 []), (11, .ptr 48 0 []), (12, .ptr 12 0 []), (13, .d (eL24 y17.2.1)), (78, .d (.val (.bool (decide (y24 ≥ a1)))))], [(7, .av (.d (eGTx a3))), (8, .av (.st [.d (.val (.slice none 0 0))])), (48, .av (.st [.st [.slc 1069 0 ((y11).length) 33]])), (12, .av (.d (eGLine y17.1))), (1069, .av (.d (.arr 33 ((y11).length) ((y11).map eGLine))))], []⟩) id hb0 (.keep rfl (.keep rfl (.keep rfl (.keep rfl (.keep rfl (.keep rfl .nil)))))) (.keep rfl (.keep rfl (.keep rfl (.keep rfl (.keep rfl .nil))))) rfl (by rfl) ?_
   exact jq
  replace h := ite_f hc23 h
  refine .off rfl rfl rfl hc23 rfl (by rfl) ?_
  refine .off rfl rfl rfl hc23 rfl (by rfl) ?_
  refine .off rfl rfl rfl hc23 rfl (by rfl) ?_
  refine .off rfl rfl rfl hc23 rfl (by rfl) ?_
  refine .v (f_pick_false (by rfl) hc23) rfl (.c rfl (.c rfl .nil)) .nil ?_
  refine .nil ?_
  obtain rfl := Option.some.inj h
  refine aq_weak (s' := ⟨[(7, .ptr 7 0 []), (8, .ptr 8 0 []), (11, .ptr 48 0 []), (12, .ptr 12 0 []), (13, .d (eL24 y17.2.1)), (78, .d (.val (.bool false)))], [(7, .av (.d (eGTx a3))), (8, .av (.st [.d (.val (.slice none 0 0))])), (48, .av (.st [.st [.slc 1069 0 ((y11).length) 33]])), (12, .av (.d (eGLine y17.1))), (1069, .av (.d (.arr 33 ((y11).length) ((y11).map eGLine))))], []⟩) id hb0 (.keep rfl (.keep rfl (.keep rfl (.keep rfl (.keep rfl (.keep rfl .nil)))))) (.keep rfl (.keep rfl (.keep rfl (.keep rfl (.keep rfl .nil))))) rfl (by rfl) ?_
  exact jq
 refine aq_then ?_
 refine aw_cond rfl (fun hc27 => ?_) (fun hc27 => ?_)
 ·replace h := ite_t hc27 h
  refine aw_rs ?_
  refine .m rfl ?_
  refine .l 7 0 [] (.d (eGTx a3)) (.d (eGTx a3)) ty36 ?_
  obtain ⟨y28, hy29, h⟩ := bind_some h
  refine .w (f_callG0 (xs := [.ptr 48 0 [], .d (eGTx a3)]) (r := .d (.val (.int .i64 y28))) (fun i => bif Nat.beq i 1 then 1069 else (bif Nat.beq i 0 then 48 else i)) [] hgl (by rfl) (cal_f en94) rfl (by rfl) (by rfl) (by rfl) (by rfl) (.cons (.same _) (.cons (.same _) .nil)) rfl rfl (F94_shard_part_worst_647_ok hy29)) rfl (.c rfl (.c rfl .nil)) (.cons rfl (.cons rfl .nil)) .nil ?_
  refine .a rfl ?_
  refine .nil (aq_then ?_)
  refine aw_seq ?_
  refine aw_rs ?_
  refine .m rfl ?_
  refine .b rfl rfl rfl ?_
  refine .nil (aq_then ?_)
  refine aw_cond rfl (fun hc30 => ?_) (fun hc30 => ?_)
  ·replace h := ite_t hc30 h
   refine aw_rs ?_
   refine .l 8 0 [] (.st [.d (.val (.slice none 0 0))]) (.st [.d (.val (.slice none 0 0))]) ty74 ?_
   refine .s (f_store (n := 0) (o := 8) (off := 0) (p := []) (c := .st [.d (.val (.slice none 0 0))]) (old := .st [.d (.val (.slice none 0 0))]) (z := .st [.d (.val (.slice none 0 0))]) (c' := .st [.d (.val (.slice none 0 0))]) rfl rfl (by rfl) ty74 (by rfl)) rfl (.c rfl (.c rfl .nil)) (.cons rfl .nil) ?_
   refine .a rfl ?_
   refine .a rfl ?_
   refine .nil (aq_then ?_)
   refine aw_ret ?_
   refine aq_then_ret ?_
   refine aq_then_ret ?_
   obtain rfl := Option.some.inj h
   refine aq_freezeH [] [(8, .ptr 8 0 []), (9, .d (eL24 ([]))), (10, .d (.val (.int .i64 (9 : Int))))] [(8, .av (.d (eGShard (⟨[]⟩ : GShard))))] .nil (.keep rfl (.cons rfl .nil (.keep rfl .nil))) (.cons rfl (by rfl) (.st (.cons .nil .nil)) .nil) ?_
   exact aq_finp hb0 rfl (.cell rfl rfl ty74 (by rfl) (.tmp rfl (by rfl) (.tmp rfl (by rfl) .nil))) (by rfl) rfl ⟨rfl, rfl⟩
  replace h := ite_f hc30 h
  refine aw_skip ?_
  refine aq_then ?_
  refine aw_rs ?_
  refine .m rfl ?_
  refine .v (f_nilCheck (by rfl)) rfl (.c rfl .nil) .nil ?_
  refine .v (f_fieldAddr (n := 0) (by rfl) fl132_0 (by decide)) rfl (.c rfl .nil) .nil ?_
  refine .v (f_fieldAddr (n := 0) (by rfl) fl74_0 (by decide)) rfl (.c rfl .nil) .nil ?_
  refine .l 48 ((0 + 0) + 0) [0, 0] (.st [.st [.slc 1069 0 ((y11).length) 33]]) (.slc 1069 0 ((y11).length) 33) ty72 ?_
  refine .m rfl ?_
  obtain ⟨x31, hx32, h⟩ := bind_some h
  obtain ⟨hx33, hx32⟩ := rd_some hx32
  refine .v (f_indexSW (by rfl) sl72 hx33 (rd_map _ hx32)) rfl (.c rfl (.c rfl .nil)) (.cons rfl .nil) ?_
  refine .v (f_load (n := 0) (o := 1069) (off := ((0 + (y28).toNat) * 33)) (p := [0 + (y28).toNat]) (c := .d (.arr 33 ((y11).length) ((y11).map eGLine))) (z := .d (eGLine x31)) (by rfl) (at_map _ (by simpa using hx32) rfl) ty26 (by rfl)) rfl (.c rfl .nil) (.cons rfl .nil) ?_
  refine .n (f_alloc 15 (by rfl) zrv26) rfl .nil rfl ?_
  refine .s (f_store (n := 0) (o := 15) (off := 0) (p := []) (c := .st [.d (eA22 (List.replicate 32 (0 : Int))), .d (.val (.slice none 0 0))]) (old := .st [.d (eA22 (List.replicate 32 (0 : Int))), .d (.val (.slice none 0 0))]) (z := .d (eGLine x31)) (c' := .d (eGLine x31)) rfl rfl (by rfl) ty26 (by rfl)) rfl (.c rfl (.c rfl .nil)) (.cons rfl .nil) ?_
  refine .z ?_
  refine .v (f_fieldAddr (n := 32) (by rfl) fl26_1 (by decide)) rfl (.c rfl .nil) .nil ?_
  refine .l 15 (0 + 32) [1] (.d (eGLine x31)) (.d (eL24 x31.Txs)) ty24 ?_
  refine .v (f_lenD (n := (x31.Txs).length) (by rfl) sl24 rfl (by simp)) rfl (.c rfl .nil) .nil ?_
  refine .b rfl rfl rfl ?_
  refine .a rfl ?_
  refine .nil (aq_then ?_)
  refine aw_rds ?_
  refine .v (f_fieldAddr (n := 32) (by rfl) fl26_1 (by decide)) rfl (.c rfl .nil) .nil ?_
  refine .v (f_load (n := 0) (o := 15) (off := (0 + 32)) (p := [1]) (c := .d (eGLine x31)) (z := .d (eL24 x31.Txs)) (by rfl) rfl ty24 (by rfl)) rfl (.c rfl .nil) (.cons rfl .nil) ?_
  refine .v (f_move (by rfl)) rfl (.c rfl .nil) .nil ?_
  obtain ⟨x34, hx35, h⟩ := bind_some h
  obtain ⟨hx36, hx35⟩ := rd_some hx35
  refine .v (f_indexS (by rfl) sl24 hx36 (rd_map _ hx35)) rfl (.c rfl (.c rfl .nil)) .nil ?_
  refine .v (f_loadR (z := (eGTx x34)) (by rfl) ty36) rfl (.c rfl .nil) .nil ?_
  refine .n (f_buildS (xs := [(0, .d (eGTx x34))]) (z := (.st [(eA22 (List.replicate 32 (0 : Int))), (eA22 (List.replicate 32 (0 : Int))), (.val (.int .u64 (0 : Int))), (.val (.int .u64 (0 : Int))), (.val (.int .u64 (0 : Int))), (eA22 (List.replicate 32 (0 : Int)))])) (zs := (([x34] : List GTx)).map eGTx) 1077 (by rfl) el24 zel24 (by rfl) (by decide) (by decide) rfl (by rfl) ⟨_, _, _, rfl, pl24_0, rfl, rfl, trivial⟩ (by rfl)) rfl (.c rfl .nil) rfl ?_
  refine .v (f_fieldAddr (n := 32) (by rfl) fl26_1 (by decide)) rfl (.c rfl .nil) .nil ?_
  refine .v (f_load (n := 0) (o := 15) (off := (0 + 32)) (p := [1]) (c := .d (eGLine x31)) (z := .d (eL24 x31.Txs)) (by rfl) rfl ty24 (by rfl)) rfl (.c rfl .nil) (.cons rfl .nil) ?_
  refine .v (f_move (by rfl)) rfl (.c rfl .nil) .nil ?_
  refine .v (f_move (by rfl)) rfl (.c rfl .nil) .nil ?_
  obtain ⟨hb37, h⟩ := ifp h
  refine .v (f_sliceDM (k1 := .i64) (k2 := .i64) (k3 := .i64) (i := (0 : Int)) (j := (IntKind.i64.wrap (((x31.Txs).length : Int) - (1 : Int)))) (xs := (x31.Txs).map eGTx) (zs := ((x31.Txs).take ((IntKind.i64.wrap (((x31.Txs).length : Int) - (1 : Int)))).toNat).map eGTx) (by rfl) sl24 (by intro hx; first | rfl | cases hx) hb37.1 hb37.2.1 (by rw [List.length_map]; exact hb37.2.2) (by simp [List.map_take, List.map_drop])) rfl (.c rfl (.c rfl (.c rfl .nil))) .nil ?_
  refine .v (f_assign (by rfl)) rfl (.c rfl .nil) .nil ?_
  refine .v (f_fieldAddr (n := 32) (by rfl) fl26_1 (by decide)) rfl (.c rfl .nil) .nil ?_
  refine .s (f_store (n := 0) (o := 15) (off := (0 + 32)) (p := [1]) (c := .d (eGLine x31)) (old := .d (eL24 x31.Txs)) (z := .d (eL24 ((x31.Txs).take ((IntKind.i64.wrap (((x31.Txs).length : Int) - (1 : Int)))).toNat))) (c' := .d (eGLine ({ x31 with Txs := ((x31.Txs).take ((IntKind.i64.wrap (((x31.Txs).length : Int) - (1 : Int)))).toNat) }))) rfl rfl (by rfl) ty24 (by rfl)) rfl (.c rfl (.c rfl .nil)) (.cons rfl .nil) ?_
  refine .nil (by kernel_rfl) ?_
  refine aw_r ?_
  refine .m rfl ?_
  refine .l 15 0 [] (.d (eGLine ({ x31 with Txs := ((x31.Txs).take ((IntKind.i64.wrap (((x31.Txs).length : Int) - (1 : Int)))).toNat) }))) (.d (eGLine ({ x31 with Txs := ((x31.Txs).take ((IntKind.i64.wrap (((x31.Txs).length : Int) - (1 : Int)))).toNat) }))) ty26 ?_
  obtain ⟨y38, hy39, h⟩ := bind_some h
  refine .w (f_callG (xs := [.ptr 48 0 [], .d (eGLine ({ x31 with Txs := ((x31.Txs).take ((IntKind.i64.wrap (((x31.Txs).length : Int) - (1 : Int)))).toNat) }))]) (r := .res []) (hw := [(48, .av (.st [.st [.slc 1083 0 ((y38).length) 33]])), (1069, .dead), (1083, .av (.d (.arr 33 ((y38).length) ((y38).map eGLine))))]) (fun i => bif Nat.beq i 1078 then 1083 else (bif Nat.beq i 1 then 1069 else (bif Nat.beq i 0 then 48 else i))) [] hgl (by rfl) (cal_f en95) rfl (by rfl) (by rfl) (by rfl) (by rfl) (.cons (.same _) (.cons (.same _) .nil)) rfl rfl rfl rfl (F95_shard_part_set_ddb_ok hy39)) rfl (.c rfl (.c rfl .nil)) (.cons rfl (.cons rfl .nil)) (.cons rfl .nil) ?_
  refine .nil ?_
  refine aq_then ?_
  refine aw_rs ?_
  refine .m rfl ?_
  refine .l 12 0 [] (.d (eGLine y17.1)) (.d (eGLine y17.1)) ty26 ?_
  obtain ⟨y40, hy41, h⟩ := bind_some h
  refine .w (f_callG (xs := [.ptr 48 0 [], .d (eGLine y17.1)]) (r := .res []) (hw := [(48, .av (.st [.st [.slc 1084 0 ((y40).length) 33]])), (1083, .dead), (1084, .av (.d (.arr 33 ((y40).length) ((y40).map eGLine))))]) (fun i => bif Nat.beq i 1078 then 1084 else (bif Nat.beq i 1 then 1083 else (bif Nat.beq i 0 then 48 else i))) [] hgl (by rfl) (cal_f en95) rfl (by rfl) (by rfl) (by rfl) (by rfl) (.cons (.same _) (.cons (.same _) .nil)) rfl rfl rfl rfl (F95_shard_part_set_ddb_ok hy41)) rfl (.c rfl (.c rfl .nil)) (.cons rfl (.cons rfl .nil)) (.cons rfl .nil) ?_
  refine .z ?_
  refine .m rfl ?_
  refine .v (f_nilCheck (by rfl)) rfl (.c rfl .nil) .nil ?_
  refine .v (f_fieldAddr (n := 0) (by rfl) fl132_0 (by decide)) rfl (.c rfl .nil) .nil ?_
  refine .l 48 (0 + 0) [0] (.st [.st [.slc 1084 0 ((y40).length) 33]]) (.st [.slc 1084 0 ((y40).length) 33]) ty74 ?_
  refine .m rfl ?_
  refine .s (f_store (n := 0) (o := 8) (off := 0) (p := []) (c := .st [.d (.val (.slice none 0 0))]) (old := .st [.d (.val (.slice none 0 0))]) (z := .st [.slc 1084 0 ((y40).length) 33]) (c' := .st [.slc 1084 0 ((y40).length) 33]) rfl rfl (by rfl) ty74 (by rfl)) rfl (.c rfl (.c rfl .nil)) (.cons rfl .nil) ?_
  refine .a rfl ?_
  refine .a rfl ?_
  refine .nil (aq_then ?_)
  refine aw_ret ?_
  obtain rfl := Option.some.inj h
  refine aq_freezeH [(1077, (.arr 99 ((([x34] : List GTx)).length) ((([x34] : List GTx)).map eGTx))), (1084, (.arr 33 ((y40).length) ((y40).map eGLine)))] [(8, .ptr 8 0 []), (9, .d (eL24 ([x34] : List GTx))), (10, .d (.val (.int .i64 (0 : Int))))] [(8, .av (.d (eGShard (⟨y40⟩ : GShard)))), (48, .av (.d (eGshard_part (⟨(⟨y40⟩ : GShard)⟩ : Gshard_part))))] (.cons rfl (.cons rfl .nil)) (.keep rfl (.cons rfl (.whole (.head _)) (.keep rfl .nil))) (.cons rfl (by rfl) (.st (.cons (.whole (.tail _ (.head _))) .nil)) (.cons rfl (by rfl) (.st (.cons (.st (.cons (.whole (.tail _ (.head _))) .nil)) .nil)) .nil)) ?_
  exact aq_finp hb0 rfl (.cell rfl rfl ty74 (by rfl) (.tmp rfl (by rfl) (.tmp rfl (by rfl) .nil))) (by rfl) rfl ⟨rfl, rfl⟩
 replace h := ite_f hc27 h
 refine aw_skip ?_
 refine aq_then ?_
 refine aw_rs ?_
 refine .m rfl ?_
 refine .l 12 0 [] (.d (eGLine y17.1)) (.d (eGLine y17.1)) ty26 ?_
 obtain ⟨y42, hy43, h⟩ := bind_some h
 refine .w (f_callG (xs := [.ptr 48 0 [], .d (eGLine y17.1)]) (r := .res []) (hw := [(48, .av (.st [.st [.slc 1085 0 ((y42).length) 33]])), (1069, .dead), (1085, .av (.d (.arr 33 ((y42).length) ((y42).map eGLine))))]) (fun i => bif Nat.beq i 1078 then 1085 else (bif Nat.beq i 1 then 1069 else (bif Nat.beq i 0 then 48 else i))) [] hgl (by rfl) (cal_f en95) rfl (by rfl) (by rfl) (by rfl) (by rfl) (.cons (.same _) (.cons (.same _) .nil)) rfl rfl rfl rfl (F95_shard_part_set_ddb_ok hy43)) rfl (.c rfl (.c rfl .nil)) (.cons rfl (.cons rfl .nil)) (.cons rfl .nil) ?_
 refine .z ?_
 refine .m rfl ?_
 refine .v (f_nilCheck (by rfl)) rfl (.c rfl .nil) .nil ?_
 refine .v (f_fieldAddr (n := 0) (by rfl) fl132_0 (by decide)) rfl (.c rfl .nil) .nil ?_
 refine .l 48 (0 + 0) [0] (.st [.st [.slc 1085 0 ((y42).length) 33]]) (.st [.slc 1085 0 ((y42).length) 33]) ty74 ?_
 refine .m rfl ?_
 refine .s (f_store (n := 0) (o := 8) (off := 0) (p := []) (c := .st [.d (.val (.slice none 0 0))]) (old := .st [.d (.val (.slice none 0 0))]) (z := .st [.slc 1085 0 ((y42).length) 33]) (c' := .st [.slc 1085 0 ((y42).length) 33]) rfl rfl (by rfl) ty74 (by rfl)) rfl (.c rfl (.c rfl .nil)) (.cons rfl .nil) ?_
 refine .a rfl ?_
 refine .a rfl ?_
 refine .nil (aq_then ?_)
 refine aw_ret ?_
 obtain rfl := Option.some.inj h
 refine aq_freezeH [(1085, (.arr 33 ((y42).length) ((y42).map eGLine)))] [(8, .ptr 8 0 []), (9, .d (eL24 y17.2.1)), (10, .d (.val (.int .i64 (0 : Int))))] [(8, .av (.d (eGShard (⟨y42⟩ : GShard)))), (48, .av (.d (eGshard_part (⟨(⟨y42⟩ : GShard)⟩ : Gshard_part))))] (.cons rfl .nil) (.keep rfl (.keep rfl (.keep rfl .nil))) (.cons rfl (by rfl) (.st (.cons (.whole (.head _)) .nil)) (.cons rfl (by rfl) (.st (.cons (.st (.cons (.whole (.head _)) .nil)) .nil)) .nil)) ?_
 exact aq_finp hb0 rfl (.cell rfl rfl ty74 (by rfl) (.tmp rfl (by rfl) (.tmp rfl (by rfl) .nil))) (by rfl) rfl ⟨rfl, rfl⟩

/- 108: beadroll/pool.Submit$1 -/
def F108_pool_Submit_1_5b5 (n : Nat) (a0 : GShard) (a1 : Int) (a2 : GAccount) (a3 : GTx) : Option ((List GTx) × Int × GShard) :=
  ((F50_shard_Submit n a0 a1 a2.Nonce a3).bind fun (y1 : GShard × (List GTx) × Int) => some (y1.2.1, y1.2.2, y1.1))
theorem F108_pool_Submit_1_5b5_ok {n : Nat} {a0 : GShard} {a1 : Int} {a2 : GAccount} {a3 : GTx} {r : (List GTx) × Int × GShard} (h : F108_pool_Submit_1_5b5 n a0 a1 a2 a3 = some r) :
    ACall Tryd.prog GS 108 [.d (eGShard a0), .ptr 0 0 [], .ptr 1 0 [], .ptr 2 0 []] [(0, .av (.d (.val (.int .i64 a1)))), (1, .av (.d (eGAccount a2))), (2, .av (.d (eGTx a3)))] (fun r' hp' => r' = .res [.d (eGShard r.2.2), .d (eL24 r.1), .d (.val (.int .i64 r.2.1))] ∧ hp' = [(5, .av (.d (eGShard r.2.2))), (0, .av (.d (.val (.int .i64 a1)))), (1, .av (.d (eGAccount a2))), (2, .av (.d (eGTx a3)))]) := by
 refine acall_of_body mixed Tryd.func108 rfl (by rfl) ?_
 intro C hro hgl hb0
 unfold F108_pool_Submit_1_5b5 at h
 refine aw_rs ?_
 refine .n (f_box 4 (by rfl) (by rfl)) rfl (.c rfl .nil) rfl ?_
 refine .n (f_alloc 5 (by rfl) zrv74) rfl .nil rfl ?_
 refine .a rfl ?_
 refine .a rfl ?_
 refine .z ?_
 refine .l 4 0 [] (.d (eGShard a0)) (.d (eGShard a0)) ty74 ?_
 refine .l 0 0 [] (.d (.val (.int .i64 a1))) (.d (.val (.int .i64 a1))) ty3 ?_
 refine .v (f_fieldAddr (n := 0) (by rfl) fl95_0 (by decide)) rfl (.c rfl .nil) .nil ?_
 refine .l 1 (0 + 0) [0] (.d (eGAccount a2)) (.d (.val (.int .u64 a2.Nonce))) ty27 ?_
 refine .l 2 0 [] (.d (eGTx a3)) (.d (eGTx a3)) ty36 ?_
 obtain ⟨y1, hy2, h⟩ := bind_some h
 refine .v (f_callP hgl (by rfl) en50 rfl (by rfl) (by rfl) (by rfl) (F50_shard_Submit_ok hy2)) rfl (.c rfl (.c rfl (.c rfl (.c rfl .nil)))) .nil ?_
 refine .v (f_extract (by rfl) rfl) rfl (.c rfl .nil) .nil ?_
 refine .v (f_extract (by rfl) rfl) rfl (.c rfl .nil) .nil ?_
 refine .v (f_extract (by rfl) rfl) rfl (.c rfl .nil) .nil ?_
 refine .s (f_store (n := 0) (o := 5) (off := 0) (p := []) (c := .st [.d (.val (.slice none 0 0))]) (old := .st [.d (.val (.slice none 0 0))]) (z := .d (eGShard y1.1)) (c' := .d (eGShard y1.1)) rfl rfl (by rfl) ty74 (by rfl)) rfl (.c rfl (.c rfl .nil)) (.cons rfl .nil) ?_
 refine .a rfl ?_
 refine .a rfl ?_
 refine .nil (aq_then ?_)
 refine aw_ret ?_
 obtain rfl := Option.some.inj h
 refine aq_weak (s' := ⟨[(5, .ptr 5 0 []), (6, .d (eL24 y1.2.1)), (7, .d (.val (.int .i64 y1.2.2)))], [(5, .av (.d (eGShard y1.1))), (0, .av (.d (.val (.int .i64 a1)))), (1, .av (.d (eGAccount a2))), (2, .av (.d (eGTx a3)))], []⟩) id hb0 (.keep rfl (.keep rfl (.keep rfl .nil))) (.keep rfl (.keep rfl (.keep rfl (.keep rfl .nil)))) rfl (by rfl) ?_
 exact aq_fin1 (.cell rfl rfl ty74 (by rfl) (.tmp rfl (by rfl) (.tmp rfl (by rfl) .nil))) rfl ⟨rfl, rfl⟩

/- 33: beadroll/pool.Twin -/
def F33_pool_Twin_s0 (n : Nat) (a0 : (List GShard)) (z0_0 : Int) (z0_1 : List GShard) : Option ((Int × List GShard) ⊕ (List GShard)) :=
  (if (decide (z0_0 < ((a0).length : Int))) = true then ((rd a0 z0_0).bind fun (x2 : GShard) => ((F61_shard_Twin n x2).bind fun (y5 : List GLine) => (if ((z0_1 ++ ([(⟨y5⟩ : GShard)] : List GShard))).length ≤ 1073741824 then some (.inl ((IntKind.i64.wrap (z0_0 + (1 : Int))), (z0_1 ++ ([(⟨y5⟩ : GShard)] : List GShard)))) else none))) else some (.inr z0_1))
def F33_pool_Twin (n : Nat) (a0 : (List GShard)) : Option (List GShard) :=
  ((loopF (fun (z : Int × List GShard) => F33_pool_Twin_s0 n a0 z.1 z.2) n ((0 : Int), ([] : List GShard))).bind fun (o8 : List GShard) => some o8)
theorem F33_pool_Twin_ok {n : Nat} {a0 : (List GShard)} {r : List GShard} (h : F33_pool_Twin n a0 = some r) :
    ACall Tryd.prog GS 33 [.d (eL41 a0)] [] (fun r' hp' => r' = .slc 1091 0 ((r).length) 1 ∧ hp' = [(1091, .av (.d (.arr 1 ((r).length) ((r).map eGShard))))]) := by
 refine acall_of_body mixed Tryd.func33 rfl (by rfl) ?_
 intro C hro hgl hb0
 unfold F33_pool_Twin at h
 refine aw_rs ?_
 refine .a rfl ?_
 refine .z ?_
 refine .a rfl ?_
 refine .nil (aq_then ?_)
 refine aw_seq ?_
 refine aw_rs ?_
 refine .m rfl ?_
 refine .v (f_lenD (n := (a0).length) (by rfl) sl41 rfl (by simp)) rfl (.c rfl .nil) .nil ?_
 refine .m rfl ?_
 refine .nil (aq_then ?_)
 refine aw_block ?_
 refine aw_adopt 3 1091 1 rfl rfl ?_
 refine aw_weak (s' := ⟨[(3, .slc 1091 0 ((([] : List GShard)).length) 1), (6, .d (eL41 a0)), (7, .d (.val (.int .i64 ((a0).length : Int)))), (8, .d (.val (.int .i64 (0 : Int))))], [(1091, .av (.d (.arr 1 ((([] : List GShard)).length) ((([] : List GShard)).map eGShard))))], []⟩) id hb0 (.keep (by simp only [List.length_set]; rfl) (.keep rfl (.keep rfl (.keep rfl .nil)))) (.keep (by simp only [List.length_set]; rfl) .nil) rfl (by rfl) ?_
 obtain ⟨o8, ho9, h⟩ := bind_some h
 refine aw_loopX (σ := Int × List GShard) (fun z => ⟨[(3, .slc 1091 0 ((z.2).length) 1), (6, .d (eL41 a0)), (7, .d (.val (.int .i64 ((a0).length : Int)))), (8, .d (.val (.int .i64 z.1)))], [(1091, .av (.d (.arr 1 ((z.2).length) ((z.2).map eGShard))))], []⟩) (fun _ => (.exit 0)) (fun (o8 : List GShard) => ⟨[(3, .slc 1091 0 ((o8).length) 1)], [(1091, .av (.d (.arr 1 ((o8).length) ((o8).map eGShard))))], []⟩) ho9 (fun _ => rfl) ?_ ?_
 ·clear h ho9
  rintro ⟨z0_0, z0_1⟩ o h
  change F33_pool_Twin_s0 n a0 z0_0 z0_1 = some o at h
  unfold F33_pool_Twin_s0 at h
  show AW _ _ _ ⟨[(3, .slc 1091 0 ((z0_1).length) 1), (6, .d (eL41 a0)), (7, .d (.val (.int .i64 ((a0).length : Int)))), (8, .d (.val (.int .i64 z0_0)))], [(1091, .av (.d (.arr 1 ((z0_1).length) ((z0_1).map eGShard))))], []⟩
  refine aw_rs ?_
  refine .b rfl rfl rfl ?_
  refine .nil (aq_then ?_)
  refine aw_seq ?_
  refine aw_cond rfl (fun hc1 => ?_) (fun hc1 => ?_)
  ·replace h := ite_t hc1 h
   refine aw_skip ?_
   refine aq_then ?_
   refine aw_seq ?_
   refine aw_block ?_
   refine aw_rs ?_
   obtain ⟨x2, hx3, h⟩ := bind_some h
   obtain ⟨hx4, hx3⟩ := rd_some hx3
   refine .v (f_indexS (by rfl) sl41 hx4 (rd_map _ hx3)) rfl (.c rfl (.c rfl .nil)) .nil ?_
   refine .v (f_loadR (z := (eGShard x2)) (by rfl) ty74) rfl (.c rfl .nil) .nil ?_
   refine .n (f_alloc 5 (by rfl) zrv74) rfl .nil rfl ?_
   refine .s (f_store (n := 0) (o := 5) (off := 0) (p := []) (c := .st [.d (.val (.slice none 0 0))]) (old := .st [.d (.val (.slice none 0 0))]) (z := .d (eGShard x2)) (c' := .d (eGShard x2)) rfl rfl (by rfl) ty74 (by rfl)) rfl (.c rfl (.c rfl .nil)) (.cons rfl .nil) ?_
   refine .nil (aq_then ?_)
   refine aw_r ?_
   refine .m rfl ?_
   refine .l 5 0 [] (.d (eGShard x2)) (.d (eGShard x2)) ty74 ?_
   obtain ⟨y5, hy6, h⟩ := bind_some h
   refine .w (f_callG (xs := [.d (eGShard x2)]) (r := .st [.slc 1097 0 ((y5).length) 33]) (hw := [(1096, .av (.st [.slc 1097 0 ((y5).length) 33])), (1097, .av (.d (.arr 33 ((y5).length) ((y5).map eGLine))))]) (fun i => bif Nat.beq i 1066 then 1097 else (bif Nat.beq i 2 then 1096 else i)) [] hgl (by rfl) (cal_f en61) rfl (by rfl) (by rfl) (by rfl) (by rfl) (.cons (.same _) .nil) rfl rfl rfl rfl (F61_shard_Twin_ok hy6)) rfl (.c rfl .nil) .nil (.cons rfl (.cons rfl .nil)) ?_
   refine R.freezeH [(1097, (.arr 33 ((y5).length) ((y5).map eGLine)))] [(6, .d (eL41 a0)), (7, .d (.val (.int .i64 ((a0).length : Int)))), (8, .d (.val (.int .i64 z0_0))), (12, .slc 1091 0 ((z0_1).length) 1), (14, .d (eGShard (⟨y5⟩ : GShard)))] [(1096, .av (.d (eGShard (⟨y5⟩ : GShard))))] (.cons rfl .nil) (.keep rfl (.keep rfl (.keep rfl (.keep rfl (.cons rfl (.st (.cons (.whole (.head _)) .nil)) .nil))))) (.cons rfl (by rfl) (.st (.cons (.whole (.head _)) .nil)) .nil) ?_
   refine .n (f_buildS (xs := [(0, .d (eGShard (⟨y5⟩ : GShard)))]) (z := (.st [(.val (.slice none 0 0))])) (zs := (([(⟨y5⟩ : GShard)] : List GShard)).map eGShard) 1098 (by rfl) el41 zel41 (by rfl) (by decide) (by decide) rfl (by rfl) ⟨_, _, _, rfl, pl41_0, rfl, rfl, trivial⟩ (by rfl)) rfl (.c rfl .nil) rfl ?_
   obtain ⟨hb7, h⟩ := ifp h
   refine .w (f_appendC (m := ((z0_1 ++ ([(⟨y5⟩ : GShard)] : List GShard))).length) (ys := (([(⟨y5⟩ : GShard)] : List GShard) : List GShard).map eGShard) (xs := (z0_1).map eGShard) (zs := ((z0_1 ++ ([(⟨y5⟩ : GShard)] : List GShard))).map eGShard) 1099 (by rfl) el41 (by simp) (by simp) (by simp [List.map_drop]) (by simp) (Nat.le_trans (Nat.mul_le_mul_right _ hb7) (by decide)) (Nat.le_trans hb7 (by decide)) srcW) rfl (.c rfl (.c rfl .nil)) (.cons rfl (.cons rfl .nil)) (.cons rfl .nil) ?_
   refine .a rfl ?_
   refine .nil ?_
   refine aq_block ?_
   refine aq_then ?_
   refine aw_r ?_
   refine .b rfl rfl rfl ?_
   refine .m rfl ?_
   refine .nil ?_
   obtain rfl := Option.some.inj h
   refine aq_weak (s' := ⟨[(3, .slc 1091 0 (((z0_1 ++ ([(⟨y5⟩ : GShard)] : List GShard))).length) 1), (6, .d (eL41 a0)), (7, .d (.val (.int .i64 ((a0).length : Int)))), (8, .d (.val (.int .i64 (IntKind.i64.wrap (z0_0 + (1 : Int))))))], [(1091, .av (.d (.arr 1 (((z0_1 ++ ([(⟨y5⟩ : GShard)] : List GShard))).length) (((z0_1 ++ ([(⟨y5⟩ : GShard)] : List GShard))).map eGShard))))], []⟩) (fun i => (bif Nat.beq i 1091 then 1099 else i)) hb0 (.cons rfl (.cons rfl (.cons rfl (.cons rfl .nil)))) (.cons rfl .nil) rfl (by rfl) ?_
   exact jq
  replace h := ite_f hc1 h
  refine aw_exit ?_
  refine aq_then_exit ?_
  obtain rfl := Option.some.inj h
  refine aq_weak (s' := ⟨[(3, .slc 1091 0 ((z0_1).length) 1)], [(1091, .av (.d (.arr 1 ((z0_1).length) ((z0_1).map eGShard))))], []⟩) id hb0 (.keep rfl .nil) (.keep rfl .nil) rfl (by rfl) ?_
  exact jq
 refine aq_block_exit ?_
 refine aq_then ?_
 refine aw_rs ?_
 refine .m rfl ?_
 refine .a rfl ?_
 refine .nil (aq_then ?_)
 refine aw_ret ?_
 obtain rfl := Option.some.inj h
 refine aq_weak (s' := ⟨[(2, .slc 1091 0 ((o8).length) 1)], [(1091, .av (.d (.arr 1 ((o8).length) ((o8).map eGShard))))], []⟩) id hb0 (.keep rfl .nil) (.keep rfl .nil) rfl (by rfl) ?_
 exact aq_fin1 (.tmp rfl (by rfl) .nil) rfl ⟨rfl, rfl⟩

/- 107: beadroll/pool.turned[[]beadroll/api.Tx] -/
def F107_api_Tx_1f2 (n : Nat) (a0 : (List GShard)) (a1 : Int) (a2 : Int) (a3 : GAccount) (a4 : GTx) : Option ((List GShard) × (List GTx) × Int) :=
  (((if (decide (a1 < (0 : Int))) = true then some true else some (decide (a1 ≥ ((a0).length : Int))))).bind fun (o2 : Bool) => (if o2 = true then some ([], [], (2 : Int)) else ((rd a0 a1).bind fun (x4 : GShard) => ((F108_pool_Submit_1_5b5 n x4 a2 a3 a4).bind fun (y7 : (List GTx) × Int × GShard) => (if (y7.2.1 != (0 : Int)) = true then some ([], [], y7.2.1) else ((F33_pool_Twin n a0).bind fun (y10 : List GShard) => ((rd y10 a1).bind fun (x12 : GShard) => some ((y10.set (0 + (a1).toNat) y7.2.2), y7.1, (0 : Int)))))))))
theorem F107_api_Tx_1f2_ok {n : Nat} {a0 : (List GShard)} {a1 : Int} {a2 : Int} {a3 : GAccount} {a4 : GTx} {r : (List GShard) × (List GTx) × Int} (h : F107_api_Tx_1f2 n a0 a1 a2 a3 a4 = some r) :
    ACall Tryd.prog GS 107 [.d (eL41 a0), .d (.val (.int .i64 a1)), .fn (.func 108) [] [.ptr 0 0 [], .ptr 1 0 [], .ptr 2 0 []]] [(0, .av (.d (.val (.int .i64 a2)))), (1, .av (.d (eGAccount a3))), (2, .av (.d (eGTx a4)))] (fun r' hp' => r' = .res [.d (eL41 r.1), .d (eL24 r.2.1), .d (.val (.int .i64 r.2.2))] ∧ hp' = [(0, .av (.d (.val (.int .i64 a2)))), (1, .av (.d (eGAccount a3))), (2, .av (.d (eGTx a4)))]) := by
 refine acall_of_body mixed Tryd.func107 rfl (by rfl) ?_
 intro C hro hgl hb0
 unfold F107_api_Tx_1f2 at h
 refine aw_rs ?_
 refine .a rfl ?_
 refine .a rfl ?_
 refine .a rfl ?_
 refine .z ?_
 refine .a rfl ?_
 refine .nil (aq_then ?_)
 refine aw_seq ?_
 refine aw_seq ?_
 obtain ⟨o2, ho15, h⟩ := bind_some h
 refine aw_join (.normal) ⟨[(0, .d (eL41 a0)), (1, .d (.val (.int .i64 a1))), (2, .fn (.func 108) [] [.ptr 0 0 [], .ptr 1 0 [], .ptr 2 0 []]), (9, .d (.val (.slice none 0 0))), (18, .d (.val (.bool o2)))], [(0, .av (.d (.val (.int .i64 a2)))), (1, .av (.d (eGAccount a3))), (2, .av (.d (eGTx a4)))], []⟩ ?_ ?_
 ·replace h := ho15
  refine aw_r ?_
  refine .m rfl ?_
  refine .b rfl rfl rfl ?_
  refine .m rfl ?_
  rcases Bool.eq_false_or_eq_true (decide (a1 < (0 : Int))) with hc1 | hc1
  ·replace h := ite_t hc1 h
   refine .off rfl rfl rfl hc1 rfl (by rfl) ?_
   refine .off rfl rfl rfl hc1 rfl (by rfl) ?_
   refine .off rfl rfl rfl hc1 rfl (by rfl) ?_
   refine .off rfl rfl rfl hc1 rfl (by rfl) ?_
   refine .v (f_pick_true (by rfl) hc1) rfl (.c rfl (.c rfl .nil)) .nil ?_
   refine .nil ?_
   obtain rfl := Option.some.inj h
   refine aq_weak (s' := ⟨[(0, .d (eL41 a0)), (1, .d (.val (.int .i64 a1))), (2, .fn (.func 108) [] [.ptr 0 0 [], .ptr 1 0 [], .ptr 2 0 []]), (9, .d (.val (.slice none 0 0))), (18, .d (.val (.bool true)))], [(0, .av (.d (.val (.int .i64 a2)))), (1, .av (.d (eGAccount a3))), (2, .av (.d (eGTx a4)))], []⟩) id hb0 (.keep rfl (.keep rfl (.keep rfl (.keep rfl (.keep rfl .nil))))) (.keep rfl (.keep rfl (.keep rfl .nil))) rfl (by rfl) ?_
   exact jq
  replace h := ite_f hc1 h
  refine .gv (f_move (by rfl)) rfl rfl rfl hc1 (.c rfl .nil) .nil ?_
  refine .gv (f_move (by rfl)) rfl rfl rfl hc1 (.c rfl .nil) .nil ?_
  refine .gv (f_lenD (n := (a0).length) (by rfl) sl41 rfl (by simp)) rfl rfl rfl hc1 (.c rfl .nil) .nil ?_
  refine .gv (f_binI (by rfl) rfl (by rfl)) rfl rfl rfl hc1 (.c rfl (.c rfl .nil)) .nil ?_
  refine .v (f_pick_false (by rfl) hc1) rfl (.c rfl (.c rfl .nil)) .nil ?_
  refine .nil ?_
  obtain rfl := Option.some.inj h
  refine aq_weak (s' := ⟨[(0, .d (eL41 a0)), (1, .d (.val (.int .i64 a1))), (2, .fn (.func 108) [] [.ptr 0 0 [], .ptr 1 0 [], .ptr 2 0 []]), (9, .d (.val (.slice none 0 0))), (18, .d (.val (.bool (decide (a1 ≥ ((a0).length : Int))))))], [(0, .av (.d (.val (.int .i64 a2)))), (1, .av (.d (eGAccount a3))), (2, .av (.d (eGTx a4)))], []⟩) id hb0 (.keep rfl (.keep rfl (.keep rfl (.keep rfl (.keep rfl .nil))))) (.keep rfl (.keep rfl (.keep rfl .nil))) rfl (by rfl) ?_
  exact jq
 refine aq_then ?_
 refine aw_cond rfl (fun hc3 => ?_) (fun hc3 => ?_)
 ·replace h := ite_t hc3 h
  refine aw_rs ?_
  refine .m rfl ?_
  refine .a rfl ?_
  refine .a rfl ?_
  refine .a rfl ?_
  refine .nil (aq_then ?_)
  refine aw_ret ?_
  refine aq_then_ret ?_
  obtain rfl := Option.some.inj h
  refine aq_freeze [] [(6, .d (eL41 ([]))), (7, .d (eL24 ([]))), (8, .d (.val (.int .i64 (2 : Int))))] .nil (.cons rfl .nil (.cons rfl .nil (.keep rfl .nil))) ?_
  refine aq_weak (s' := ⟨[(6, .d (eL41 ([]))), (7, .d (eL24 ([]))), (8, .d (.val (.int .i64 (2 : Int))))], [(0, .av (.d (.val (.int .i64 a2)))), (1, .av (.d (eGAccount a3))), (2, .av (.d (eGTx a4)))], []⟩) id hb0 (.keep rfl (.keep rfl (.keep rfl .nil))) (.keep rfl (.keep rfl (.keep rfl .nil))) rfl (by rfl) ?_
  exact aq_fin1 (.tmp rfl (by rfl) (.tmp rfl (by rfl) (.tmp rfl (by rfl) .nil))) rfl ⟨rfl, rfl⟩
 replace h := ite_f hc3 h
 refine aw_skip ?_
 refine aq_then ?_
 refine aw_rs ?_
 refine .m rfl ?_
 refine .m rfl ?_
 refine .m rfl ?_
 obtain ⟨x4, hx5, h⟩ := bind_some h
 obtain ⟨hx6, hx5⟩ := rd_some hx5
 refine .v (f_indexS (by rfl) sl41 hx6 (rd_map _ hx5)) rfl (.c rfl (.c rfl .nil)) .nil ?_
 refine .v (f_loadR (z := (eGShard x4)) (by rfl) ty74) rfl (.c rfl .nil) .nil ?_
 obtain ⟨y7, hy8, h⟩ := bind_some h
 refine .w (f_callG (xs := [.d (eGShard x4)]) (r := .res [.d (eGShard y7.2.2), .d (eL24 y7.1), .d (.val (.int .i64 y7.2.1))]) (hw := [(1086, .av (.d (eGShard y7.2.2))), (0, .av (.d (.val (.int .i64 a2)))), (1, .av (.d (eGAccount a3))), (2, .av (.d (eGTx a4)))]) (fun i => bif Nat.beq i 5 then 1086 else i) [] hgl (by rfl) (cal_v (first := []) (caps := [.ptr 0 0 [], .ptr 1 0 [], .ptr 2 0 []]) en108) rfl (by rfl) (by rfl) (by rfl) (by rfl) (.cons (.same _) (.cons (.same _) (.cons (.same _) (.cons (.same _) .nil)))) rfl rfl rfl rfl (F108_pool_Submit_1_5b5_ok hy8)) rfl (.c rfl (.c rfl .nil)) (.cons rfl (.cons rfl (.cons rfl .nil))) (.cons rfl .nil) ?_
 refine .m rfl ?_
 refine .v (f_extract (by rfl) rfl) rfl (.c rfl .nil) .nil ?_
 refine .v (f_extract (by rfl) rfl) rfl (.c rfl .nil) .nil ?_
 refine .v (f_extract (by rfl) rfl) rfl (.c rfl .nil) .nil ?_
 refine .n (f_alloc 10 (by rfl) zrv74) rfl .nil rfl ?_
 refine .s (f_store (n := 0) (o := 10) (off := 0) (p := []) (c := .st [.d (.val (.slice none 0 0))]) (old := .st [.d (.val (.slice none 0 0))]) (z := .d (eGShard y7.2.2)) (c' := .d (eGShard y7.2.2)) rfl rfl (by rfl) ty74 (by rfl)) rfl (.c rfl (.c rfl .nil)) (.cons rfl .nil) ?_
 refine .a rfl ?_
 refine .a rfl ?_
 refine .nil (aq_then ?_)
 refine aw_seq ?_
 refine aw_rs ?_
 refine .m rfl ?_
 refine .b rfl rfl rfl ?_
 refine .nil (aq_then ?_)
 refine aw_cond rfl (fun hc9 => ?_) (fun hc9 => ?_)
 ·replace h := ite_t hc9 h
  refine aw_rs ?_
  refine .m rfl ?_
  refine .m rfl ?_
  refine .a rfl ?_
  refine .a rfl ?_
  refine .a rfl ?_
  refine .nil (aq_then ?_)
  refine aw_ret ?_
  refine aq_then_ret ?_
  obtain rfl := Option.some.inj h
  refine aq_freeze [] [(7, .d (eL24 ([]))), (8, .d (.val (.int .i64 y7.2.1))), (6, .d (eL41 ([])))] .nil (.cons rfl .nil (.keep rfl (.cons rfl .nil .nil))) ?_
  refine aq_weak (s' := ⟨[(6, .d (eL41 ([]))), (7, .d (eL24 ([]))), (8, .d (.val (.int .i64 y7.2.1)))], [(0, .av (.d (.val (.int .i64 a2)))), (1, .av (.d (eGAccount a3))), (2, .av (.d (eGTx a4)))], []⟩) id hb0 (.keep rfl (.keep rfl (.keep rfl .nil))) (.keep rfl (.keep rfl (.keep rfl .nil))) rfl (by rfl) ?_
  exact aq_fin1 (.tmp rfl (by rfl) (.tmp rfl (by rfl) (.tmp rfl (by rfl) .nil))) rfl ⟨rfl, rfl⟩
 replace h := ite_f hc9 h
 refine aw_skip ?_
 refine aq_then ?_
 refine aw_rs ?_
 refine .m rfl ?_
 obtain ⟨y10, hy11, h⟩ := bind_some h
 refine .w (f_callG (xs := [.d (eL41 a0)]) (r := .slc 1100 0 ((y10).length) 1) (hw := [(1100, .av (.d (.arr 1 ((y10).length) ((y10).map eGShard))))]) (fun i => bif Nat.beq i 1091 then 1100 else i) [] hgl (by rfl) (cal_f en33) rfl (by rfl) (by rfl) (by rfl) (by rfl) (.cons (.same _) .nil) rfl rfl rfl rfl (F33_pool_Twin_ok hy11)) rfl (.c rfl .nil) .nil (.cons rfl .nil) ?_
 refine .a rfl ?_
 refine .z ?_
 refine .m rfl ?_
 refine .m rfl ?_
 refine .l 10 0 [] (.d (eGShard y7.2.2)) (.d (eGShard y7.2.2)) ty74 ?_
 obtain ⟨x12, hx13, h⟩ := bind_some h
 obtain ⟨hx14, hx13⟩ := rd_some hx13
 refine .v (f_indexSW (by rfl) sl41 hx14 (rd_map _ hx13)) rfl (.c rfl (.c rfl .nil)) (.cons rfl .nil) ?_
 refine .s (f_store (n := 0) (o := 1100) (off := ((0 + (a1).toNat) * 1)) (p := [0 + (a1).toNat]) (c := .d (.arr 1 ((y10).length) ((y10).map eGShard))) (old := .d (eGShard x12)) (z := .d (eGShard y7.2.2)) (c' := .d (.arr 1 ((y10).length) (((y10.set (0 + (a1).toNat) y7.2.2)).map eGShard))) (at_map _ (by simpa using hx13) rfl) (put_map _ (by simpa using hx13)) (by rfl) ty74 (by rfl)) rfl (.c rfl (.c rfl .nil)) (.cons rfl .nil) ?_
 refine .z ?_
 refine .m rfl ?_
 refine .m rfl ?_
 refine .a rfl ?_
 refine .a rfl ?_
 refine .a rfl ?_
 refine .nil (aq_then ?_)
 refine aw_ret ?_
 obtain rfl := Option.some.inj h
 refine aq_freeze [(1100, (.arr 1 ((y10).length) (((y10.set (0 + (a1).toNat) y7.2.2)).map eGShard)))] [(7, .d (eL24 y7.1)), (8, .d (.val (.int .i64 (0 : Int)))), (6, .d (eL41 (y10.set (0 + (a1).toNat) y7.2.2)))] (.cons rfl .nil) (.keep rfl (.keep rfl (.cons rfl (.whole (.head _)) .nil))) ?_
 refine aq_weak (s' := ⟨[(6, .d (eL41 (y10.set (0 + (a1).toNat) y7.2.2))), (7, .d (eL24 y7.1)), (8, .d (.val (.int .i64 (0 : Int))))], [(0, .av (.d (.val (.int .i64 a2)))), (1, .av (.d (eGAccount a3))), (2, .av (.d (eGTx a4)))], []⟩) id hb0 (.keep rfl (.keep rfl (.keep rfl .nil))) (.keep rfl (.keep rfl (.keep rfl .nil))) rfl (by rfl) ?_
 exact aq_fin1 (.tmp rfl (by rfl) (.tmp rfl (by rfl) (.tmp rfl (by rfl) .nil))) rfl ⟨rfl, rfl⟩

/- 68: beadroll/pool.Submit -/
def F68_pool_Submit (n : Nat) (a0 : (List GShard)) (a1 : Int) (a2 : GTree) (a3 : GTx) : Option ((List GShard) × (List GTx) × Int) :=
  ((F106_pool_asked n a0 a2).bind fun (y1 : Int) => (if (y1 != (0 : Int)) = true then some ([], [], y1) else ((F39_tx_From n a3).bind fun (y4 : (List Int)) => ((F23_pool_At n y4 ((a0).length : Int)).bind fun (y6 : Int × Int) => ((F64_acct_Get n a2 y4).bind fun (y8 : GAccount × Int) => ((F107_api_Tx_1f2 n a0 y6.1 a1 y8.1 a3).bind fun (y10 : (List GShard) × (List GTx) × Int) => some (y10.1, y10.2.1, y10.2.2)))))))
theorem F68_pool_Submit_ok {n : Nat} {a0 : (List GShard)} {a1 : Int} {a2 : GTree} {a3 : GTx} {r : (List GShard) × (List GTx) × Int} (h : F68_pool_Submit n a0 a1 a2 a3 = some r) :
    ACall Tryd.prog GS 68 [.d (eL41 a0), .d (.val (.int .i64 a1)), .d (eGTree a2), .d (eGTx a3)] [] (fun r' hp' => r' = .res [.d (eL41 r.1), .d (eL24 r.2.1), .d (.val (.int .i64 r.2.2))] ∧ hp' = []) := by
 refine acall_of_body mixed Tryd.func68 rfl (by rfl) ?_
 intro C hro hgl hb0
 unfold F68_pool_Submit at h
 refine aw_rs ?_
 refine .n (f_box 5 (by rfl) (by rfl)) rfl (.c rfl .nil) rfl ?_
 refine .n (f_box 6 (by rfl) (by rfl)) rfl (.c rfl .nil) rfl ?_
 refine .n (f_box 7 (by rfl) (by rfl)) rfl (.c rfl .nil) rfl ?_
 refine .a rfl ?_
 refine .a rfl ?_
 refine .a rfl ?_
 refine .nil (aq_then ?_)
 refine aw_seq ?_
 refine aw_rs ?_
 refine .m rfl ?_
 refine .l 6 0 [] (.d (eGTree a2)) (.d (eGTree a2)) ty90 ?_
 obtain ⟨y1, hy2, h⟩ := bind_some h
 refine .v (f_callP hgl (by rfl) en106 rfl (by rfl) (by rfl) (by rfl) (F106_pool_asked_ok hy2)) rfl (.c rfl (.c rfl .nil)) .nil ?_
 refine .a rfl ?_
 refine .z ?_
 refine .m rfl ?_
 refine .b rfl rfl rfl ?_
 refine .nil (aq_then ?_)
 refine aw_cond rfl (fun hc3 => ?_) (fun hc3 => ?_)
 ·replace h := ite_t hc3 h
  refine aw_rs ?_
  refine .m rfl ?_
  refine .a rfl ?_
  refine .a rfl ?_
  refine .a rfl ?_
  refine .nil (aq_then ?_)
  refine aw_ret ?_
  refine aq_then_ret ?_
  obtain rfl := Option.some.inj h
  refine aq_freeze [] [(8, .d (eL41 ([]))), (9, .d (eL24 ([]))), (10, .d (.val (.int .i64 y1)))] .nil (.cons rfl .nil (.cons rfl .nil (.keep rfl .nil))) ?_
  exact aq_finp hb0 rfl (.tmp rfl (by rfl) (.tmp rfl (by rfl) (.tmp rfl (by rfl) .nil))) (by rfl) rfl ⟨rfl, rfl⟩
 replace h := ite_f hc3 h
 refine aw_skip ?_
 refine aq_then ?_
 refine aw_rs ?_
 refine .l 7 0 [] (.d (eGTx a3)) (.d (eGTx a3)) ty36 ?_
 obtain ⟨y4, hy5, h⟩ := bind_some h
 refine .v (f_callP hgl (by rfl) en39 rfl (by rfl) (by rfl) (by rfl) (F39_tx_From_ok hy5)) rfl (.c rfl .nil) .nil ?_
 refine .n (f_alloc 12 (by rfl) zr23) rfl .nil rfl ?_
 refine .s (f_store (n := 0) (o := 12) (off := 0) (p := []) (c := .d (eA22 (List.replicate 32 (0 : Int)))) (old := .d (eA22 (List.replicate 32 (0 : Int)))) (z := .d (eA22 y4)) (c' := .d (eA22 y4)) rfl rfl (by rfl) ty23 (by rfl)) rfl (.c rfl (.c rfl .nil)) (.cons rfl .nil) ?_
 refine .z ?_
 refine .l 12 0 [] (.d (eA22 y4)) (.d (eA22 y4)) ty23 ?_
 refine .m rfl ?_
 refine .v (f_lenD (n := (a0).length) (by rfl) sl41 rfl (by simp)) rfl (.c rfl .nil) .nil ?_
 obtain ⟨y6, hy7, h⟩ := bind_some h
 refine .v (f_callP hgl (by rfl) en23 rfl (by rfl) (by rfl) (by rfl) (F23_pool_At_ok hy7)) rfl (.c rfl (.c rfl .nil)) .nil ?_
 refine .m rfl ?_
 refine .v (f_extract (by rfl) rfl) rfl (.c rfl .nil) .nil ?_
 refine .v (f_extract (by rfl) rfl) rfl (.c rfl .nil) .nil ?_
 refine .a rfl ?_
 refine .a rfl ?_
 refine .z ?_
 refine .l 6 0 [] (.d (eGTree a2)) (.d (eGTree a2)) ty90 ?_
 refine .l 12 0 [] (.d (eA22 y4)) (.d (eA22 y4)) ty23 ?_
 obtain ⟨y8, hy9, h⟩ := bind_some h
 refine .v (f_callP hgl (by rfl) en64 rfl (by rfl) (by rfl) (by rfl) (F64_acct_Get_ok hy9)) rfl (.c rfl (.c rfl .nil)) .nil ?_
 refine .m rfl ?_
 refine .v (f_extract (by rfl) rfl) rfl (.c rfl .nil) .nil ?_
 refine .v (f_extract (by rfl) rfl) rfl (.c rfl .nil) .nil ?_
 refine .n (f_alloc 15 (by rfl) zr95) rfl .nil rfl ?_
 refine .s (f_store (n := 0) (o := 15) (off := 0) (p := []) (c := .d (eGAccount (⟨(0 : Int), (0 : Int)⟩ : GAccount))) (old := .d (eGAccount (⟨(0 : Int), (0 : Int)⟩ : GAccount))) (z := .d (eGAccount y8.1)) (c' := .d (eGAccount y8.1)) rfl rfl (by rfl) ty95 (by rfl)) rfl (.c rfl (.c rfl .nil)) (.cons rfl .nil) ?_
 refine .a rfl ?_
 refine .z ?_
 refine .m rfl ?_
 refine .m rfl ?_
 refine .v (f_makeFunc (xs := []) (ys := [.ptr 5 0 [], .ptr 15 0 [], .ptr 7 0 []]) (by rfl) rfl rfl (by rfl) (by rfl)) rfl (.c rfl (.c rfl (.c rfl .nil))) .nil ?_
 obtain ⟨y10, hy11, h⟩ := bind_some h
 refine .w (f_callG0 (xs := [.d (eL41 a0), .d (.val (.int .i64 y6.1)), .fn (.func 108) [] [.ptr 5 0 [], .ptr 15 0 [], .ptr 7 0 []]]) (r := .res [.d (eL41 y10.1), .d (eL24 y10.2.1), .d (.val (.int .i64 y10.2.2))]) (fun i => bif Nat.beq i 2 then 7 else (bif Nat.beq i 1 then 15 else (bif Nat.beq i 0 then 5 else i))) [] hgl (by rfl) (cal_f en107) rfl (by rfl) (by rfl) (by rfl) (by rfl) (.cons (.same _) (.cons (.same _) (.cons (.same _) .nil))) rfl rfl (F107_api_Tx_1f2_ok hy11)) rfl (.c rfl (.c rfl (.c rfl .nil))) (.cons rfl (.cons rfl (.cons rfl .nil))) .nil ?_
 refine .v (f_extract (by rfl) rfl) rfl (.c rfl .nil) .nil ?_
 refine .v (f_extract (by rfl) rfl) rfl (.c rfl .nil) .nil ?_
 refine .v (f_extract (by rfl) rfl) rfl (.c rfl .nil) .nil ?_
 refine .a rfl ?_
 refine .a rfl ?_
 refine .a rfl ?_
 refine .nil (aq_then ?_)
 refine aw_ret ?_
 obtain rfl := Option.some.inj h
 exact aq_finp hb0 rfl (.tmp rfl (by rfl) (.tmp rfl (by rfl) (.tmp rfl (by rfl) .nil))) (by rfl) rfl ⟨rfl, rfl⟩

/- 66: beadroll/beadrolllaw21.alive -/
def F66_beadrolllaw21_alive (n : Nat)  : Option (Bool) :=
  ((F23_pool_At n ((List.replicate 32 (0 : Int)).set 31 (7 : Int)) (4 : Int)).bind fun (y1 : Int × Int) => ((F25_pool_New n (2 : Int)).bind fun (y3 : (List GShard) × Int) => ((F37_tx_Sign n (⟨(List.replicate 32 (0 : Int)), (List.replicate 32 (0 : Int)), (0 : Int), (0 : Int), (1 : Int), (List.replicate 32 (0 : Int))⟩ : GTx)).bind fun (y5 : GTx) => ((F68_pool_Submit n y3.1 (4 : Int) (⟨[], (0 : Int)⟩ : GTree) y5).bind fun (y7 : (List GShard) × (List GTx) × Int) => (((if (y1.2 == (0 : Int)) = true then (if (y1.1 == (3 : Int)) = true then (if (y3.2 == (0 : Int)) = true then (if (((y3.1).length : Int) == (2 : Int)) = true then (if (y7.2.2 == (0 : Int)) = true then (if (((y7.2.1).length : Int) == (0 : Int)) = true then ((F30_pool_Count n y7.1).bind fun (y15 : Int) => (if (y15 == (1 : Int)) = true then ((F30_pool_Count n y3.1).bind fun (y18 : Int) => some (y18 == (0 : Int))) else some false)) else some false) else some false) else some false) else some false) else some false) else some false)).bind fun (o20 : Bool) => some o20)))))
theorem F66_beadrolllaw21_alive_ok {n : Nat}  {r : Bool} (h : F66_beadrolllaw21_alive n  = some r) :
    ACall Tryd.prog GS 66 [] [] (fun r' hp' => r' = .d (.val (.bool r)) ∧ hp' = []) := by
 refine acall_of_body mixed Tryd.func66 rfl (by rfl) ?_
 intro C hro hgl hb0
 unfold F66_beadrolllaw21_alive at h
 refine aw_rs ?_
 refine .a rfl ?_
 refine .z ?_
 refine .v (f_build (xs := [(31, .d (.val (.int .u8 (7 : Int))))]) (z' := .d (eA22 ((List.replicate 32 (0 : Int)).set 31 (7 : Int)))) (by rfl) zr23 ag23 rfl (by rfl) ⟨_, _, _, rfl, pl23_31, rfl, rfl, trivial⟩ (by rfl) (by rfl)) rfl (.c rfl .nil) .nil ?_
 refine .n (f_alloc 1 (by rfl) zr23) rfl .nil rfl ?_
 refine .s (f_store (n := 0) (o := 1) (off := 0) (p := []) (c := .d (eA22 (List.replicate 32 (0 : Int)))) (old := .d (eA22 (List.replicate 32 (0 : Int)))) (z := .d (eA22 ((List.replicate 32 (0 : Int)).set 31 (7 : Int)))) (c' := .d (eA22 ((List.replicate 32 (0 : Int)).set 31 (7 : Int)))) rfl rfl (by rfl) ty23 (by rfl)) rfl (.c rfl (.c rfl .nil)) (.cons rfl .nil) ?_
 refine .z ?_
 refine .l 1 0 [] (.d (eA22 ((List.replicate 32 (0 : Int)).set 31 (7 : Int)))) (.d (eA22 ((List.replicate 32 (0 : Int)).set 31 (7 : Int)))) ty23 ?_
 obtain ⟨y1, hy2, h⟩ := bind_some h
 refine .v (f_callP hgl (by rfl) en23 rfl (by rfl) (by rfl) (by rfl) (F23_pool_At_ok hy2)) rfl (.c rfl (.c rfl .nil)) .nil ?_
 refine .m rfl ?_
 refine .v (f_extract (by rfl) rfl) rfl (.c rfl .nil) .nil ?_
 refine .v (f_extract (by rfl) rfl) rfl (.c rfl .nil) .nil ?_
 refine .a rfl ?_
 refine .a rfl ?_
 refine .z ?_
 obtain ⟨y3, hy4, h⟩ := bind_some h
 refine .v (f_callP hgl (by rfl) en25 rfl (by rfl) (by rfl) (by rfl) (F25_pool_New_ok hy4)) rfl (.c rfl .nil) .nil ?_
 refine .m rfl ?_
 refine .v (f_extract (by rfl) rfl) rfl (.c rfl .nil) .nil ?_
 refine .v (f_extract (by rfl) rfl) rfl (.c rfl .nil) .nil ?_
 refine .a rfl ?_
 refine .a rfl ?_
 refine .z ?_
 refine .v (f_build (xs := [(4, .d (.val (.int .u64 (1 : Int))))]) (z' := .d (eGTx (⟨(List.replicate 32 (0 : Int)), (List.replicate 32 (0 : Int)), (0 : Int), (0 : Int), (1 : Int), (List.replicate 32 (0 : Int))⟩ : GTx))) (by rfl) zr36 ag36 rfl (by rfl) ⟨_, _, _, rfl, pl36_4, rfl, rfl, trivial⟩ (by rfl) (by rfl)) rfl (.c rfl .nil) .nil ?_
 obtain ⟨y5, hy6, h⟩ := bind_some h
 refine .v (f_callP hgl (by rfl) en37 rfl (by rfl) (by rfl) (by rfl) (F37_tx_Sign_ok hy6)) rfl (.c rfl .nil) .nil ?_
 refine .n (f_alloc 6 (by rfl) zr36) rfl .nil rfl ?_
 refine .s (f_store (n := 0) (o := 6) (off := 0) (p := []) (c := .d (eGTx (⟨(List.replicate 32 (0 : Int)), (List.replicate 32 (0 : Int)), (0 : Int), (0 : Int), (0 : Int), (List.replicate 32 (0 : Int))⟩ : GTx))) (old := .d (eGTx (⟨(List.replicate 32 (0 : Int)), (List.replicate 32 (0 : Int)), (0 : Int), (0 : Int), (0 : Int), (List.replicate 32 (0 : Int))⟩ : GTx))) (z := .d (eGTx y5)) (c' := .d (eGTx y5)) rfl rfl (by rfl) ty36 (by rfl)) rfl (.c rfl (.c rfl .nil)) (.cons rfl .nil) ?_
 refine .z ?_
 refine .m rfl ?_
 refine .v (f_build (xs := []) (z' := .st [.d (.val (.slice none 0 0)), .d (.val (.int .i64 (0 : Int)))]) (by rfl) zrv90 ag90 rfl (by rfl) trivial (by rfl) (by rfl)) rfl .nil .nil ?_
 refine .l 6 0 [] (.d (eGTx y5)) (.d (eGTx y5)) ty36 ?_
 obtain ⟨y7, hy8, h⟩ := bind_some h
 refine .w (f_callG0 (xs := [.d (eL41 y3.1), .d (.val (.int .i64 (4 : Int))), .st [.d (.val (.slice none 0 0)), .d (.val (.int .i64 (0 : Int)))], .d (eGTx y5)]) (r := .res [.d (eL41 y7.1), .d (eL24 y7.2.1), .d (.val (.int .i64 y7.2.2))]) (fun i => i) [] hgl (by rfl) (cal_f en68) rfl (by rfl) (by rfl) (by rfl) (by rfl) (.cons (.same _) (.cons (.same _) (.cons (.st (.cons .nil (.cons (.same _) .nil))) (.cons (.same _) .nil)))) rfl rfl (F68_pool_Submit_ok hy8)) rfl (.c rfl (.c rfl (.c rfl (.c rfl .nil)))) .nil .nil ?_
 refine .m rfl ?_
 refine .v (f_extract (by rfl) rfl) rfl (.c rfl .nil) .nil ?_
 refine .v (f_extract (by rfl) rfl) rfl (.c rfl .nil) .nil ?_
 refine .v (f_extract (by rfl) rfl) rfl (.c rfl .nil) .nil ?_
 refine .a rfl ?_
 refine .a rfl ?_
 refine .a rfl ?_
 refine .nil (aq_then ?_)
 refine aw_seq ?_
 obtain ⟨o20, ho21, h⟩ := bind_some h
 refine aw_join (.normal) ⟨[(0, .d (.val (.bool o20)))], [], []⟩ ?_ ?_
 ·replace h := ho21
  refine aw_r ?_
  refine .m rfl ?_
  refine .b rfl rfl rfl ?_
  refine .m rfl ?_
  rcases Bool.eq_false_or_eq_true (y1.2 == (0 : Int)) with hc9 | hc9
  ·replace h := ite_t hc9 h
   refine .gv (f_move (by rfl)) rfl rfl rfl hc9 (.c rfl .nil) .nil ?_
   refine .gv (f_binI (by rfl) rfl (by rfl)) rfl rfl rfl hc9 (.c rfl (.c rfl .nil)) .nil ?_
   refine .v (f_pick_true (by rfl) hc9) rfl (.c rfl (.c rfl .nil)) .nil ?_
   refine .m rfl ?_
   rcases Bool.eq_false_or_eq_true (y1.1 == (3 : Int)) with hc10 | hc10
   ·replace h := ite_t hc10 h
    refine .gv (f_move (by rfl)) rfl rfl rfl hc10 (.c rfl .nil) .nil ?_
    refine .gv (f_binI (by rfl) rfl (by rfl)) rfl rfl rfl hc10 (.c rfl (.c rfl .nil)) .nil ?_
    refine .v (f_pick_true (by rfl) hc10) rfl (.c rfl (.c rfl .nil)) .nil ?_
    refine .m rfl ?_
    rcases Bool.eq_false_or_eq_true (y3.2 == (0 : Int)) with hc11 | hc11
    ·replace h := ite_t hc11 h
     refine .gv (f_move (by rfl)) rfl rfl rfl hc11 (.c rfl .nil) .nil ?_
     refine .gv (f_lenD (n := (y3.1).length) (by rfl) sl41 rfl (by simp)) rfl rfl rfl hc11 (.c rfl .nil) .nil ?_
     refine .gv (f_binI (by rfl) rfl (by rfl)) rfl rfl rfl hc11 (.c rfl (.c rfl .nil)) .nil ?_
     refine .v (f_pick_true (by rfl) hc11) rfl (.c rfl (.c rfl .nil)) .nil ?_
     refine .m rfl ?_
     rcases Bool.eq_false_or_eq_true (((y3.1).length : Int) == (2 : Int)) with hc12 | hc12
     ·replace h := ite_t hc12 h
      refine .gv (f_move (by rfl)) rfl rfl rfl hc12 (.c rfl .nil) .nil ?_
      refine .gv (f_binI (by rfl) rfl (by rfl)) rfl rfl rfl hc12 (.c rfl (.c rfl .nil)) .nil ?_
      refine .v (f_pick_true (by rfl) hc12) rfl (.c rfl (.c rfl .nil)) .nil ?_
      refine .m rfl ?_
      rcases Bool.eq_false_or_eq_true (y7.2.2 == (0 : Int)) with hc13 | hc13
      ·replace h := ite_t hc13 h
       refine .gv (f_move (by rfl)) rfl rfl rfl hc13 (.c rfl .nil) .nil ?_
       refine .gv (f_lenD (n := (y7.2.1).length) (by rfl) sl24 rfl (by simp)) rfl rfl rfl hc13 (.c rfl .nil) .nil ?_
       refine .gv (f_binI (by rfl) rfl (by rfl)) rfl rfl rfl hc13 (.c rfl (.c rfl .nil)) .nil ?_
       refine .v (f_pick_true (by rfl) hc13) rfl (.c rfl (.c rfl .nil)) .nil ?_
       refine .m rfl ?_
       rcases Bool.eq_false_or_eq_true (((y7.2.1).length : Int) == (0 : Int)) with hc14 | hc14
       ·replace h := ite_t hc14 h
        refine .gv (f_move (by rfl)) rfl rfl rfl hc14 (.c rfl .nil) .nil ?_
        obtain ⟨y15, hy16, h⟩ := bind_some h
        refine .gv (f_callP hgl (by rfl) en30 rfl (by rfl) (by rfl) (by rfl) (F30_pool_Count_ok hy16)) rfl rfl rfl hc14 (.c rfl .nil) .nil ?_
        refine .gv (f_binI (by rfl) rfl (by rfl)) rfl rfl rfl hc14 (.c rfl (.c rfl .nil)) .nil ?_
        refine .v (f_pick_true (by rfl) hc14) rfl (.c rfl (.c rfl .nil)) .nil ?_
        refine .m rfl ?_
        rcases Bool.eq_false_or_eq_true (y15 == (1 : Int)) with hc17 | hc17
        ·replace h := ite_t hc17 h
         refine .gv (f_move (by rfl)) rfl rfl rfl hc17 (.c rfl .nil) .nil ?_
         obtain ⟨y18, hy19, h⟩ := bind_some h
         refine .gv (f_callP hgl (by rfl) en30 rfl (by rfl) (by rfl) (by rfl) (F30_pool_Count_ok hy19)) rfl rfl rfl hc17 (.c rfl .nil) .nil ?_
         refine .gv (f_binI (by rfl) rfl (by rfl)) rfl rfl rfl hc17 (.c rfl (.c rfl .nil)) .nil ?_
         refine .v (f_pick_true (by rfl) hc17) rfl (.c rfl (.c rfl .nil)) .nil ?_
         refine .a rfl ?_
         refine .nil ?_
         obtain rfl := Option.some.inj h
         refine aq_weak (s' := ⟨[(0, .d (.val (.bool (y18 == (0 : Int)))))], [], []⟩) id hb0 (.keep rfl .nil) .nil rfl (by rfl) ?_
         exact jq
        replace h := ite_f hc17 h
        refine .off rfl rfl rfl hc17 rfl (by rfl) ?_
        refine .off rfl rfl rfl hc17 rfl (by rfl) ?_
        refine .off rfl rfl rfl hc17 rfl (by rfl) ?_
        refine .v (f_pick_false (by rfl) hc17) rfl (.c rfl (.c rfl .nil)) .nil ?_
        refine .a rfl ?_
        refine .nil ?_
        obtain rfl := Option.some.inj h
        refine aq_weak (s' := ⟨[(0, .d (.val (.bool false)))], [], []⟩) id hb0 (.keep rfl .nil) .nil rfl (by rfl) ?_
        exact jq
       replace h := ite_f hc14 h
       refine .off rfl rfl rfl hc14 rfl (by rfl) ?_
       refine .off rfl rfl rfl hc14 rfl (by rfl) ?_
       refine .off rfl rfl rfl hc14 rfl (by rfl) ?_
       refine .v (f_pick_false (by rfl) hc14) rfl (.c rfl (.c rfl .nil)) .nil ?_
       refine .m rfl ?_
       refine .off rfl rfl rfl rfl rfl (by rfl) ?_
       refine .off rfl rfl rfl rfl rfl (by rfl) ?_
       refine .off rfl rfl rfl rfl rfl (by rfl) ?_
       refine .v (f_pick_false (by rfl) rfl) rfl (.c rfl (.c rfl .nil)) .nil ?_
       refine .a rfl ?_
       refine .nil ?_
       obtain rfl := Option.some.inj h
       refine aq_weak (s' := ⟨[(0, .d (.val (.bool false)))], [], []⟩) id hb0 (.keep rfl .nil) .nil rfl (by rfl) ?_
       exact jq
      replace h := ite_f hc13 h
      refine .off rfl rfl rfl hc13 rfl (by rfl) ?_
      refine .off rfl rfl rfl hc13 rfl (by rfl) ?_
      refine .off rfl rfl rfl hc13 rfl (by rfl) ?_
      refine .v (f_pick_false (by rfl) hc13) rfl (.c rfl (.c rfl .nil)) .nil ?_
      refine .m rfl ?_
      refine .off rfl rfl rfl rfl rfl (by rfl) ?_
      refine .off rfl rfl rfl rfl rfl (by rfl) ?_
      refine .off rfl rfl rfl rfl rfl (by rfl) ?_
      refine .v (f_pick_false (by rfl) rfl) rfl (.c rfl (.c rfl .nil)) .nil ?_
      refine .m rfl ?_
      refine .off rfl rfl rfl rfl rfl (by rfl) ?_
      refine .off rfl rfl rfl rfl rfl (by rfl) ?_
      refine .off rfl rfl rfl rfl rfl (by rfl) ?_
      refine .v (f_pick_false (by rfl) rfl) rfl (.c rfl (.c rfl .nil)) .nil ?_
      refine .a rfl ?_
      refine .nil ?_
      obtain rfl := Option.some.inj h
      refine aq_weak (s' := ⟨[(0, .d (.val (.bool false)))], [], []⟩) id hb0 (.keep rfl .nil) .nil rfl (by rfl) ?_
      exact jq
     replace h := ite_f hc12 h
     refine .off rfl rfl rfl hc12 rfl (by rfl) ?_
     refine .off rfl rfl rfl hc12 rfl (by rfl) ?_
     refine .v (f_pick_false (by rfl) hc12) rfl (.c rfl (.c rfl .nil)) .nil ?_
     refine .m rfl ?_
     refine .off rfl rfl rfl rfl rfl (by rfl) ?_
     refine .off rfl rfl rfl rfl rfl (by rfl) ?_
     refine .off rfl rfl rfl rfl rfl (by rfl) ?_
     refine .v (f_pick_false (by rfl) rfl) rfl (.c rfl (.c rfl .nil)) .nil ?_
     refine .m rfl ?_
     refine .off rfl rfl rfl rfl rfl (by rfl) ?_
     refine .off rfl rfl rfl rfl rfl (by rfl) ?_
     refine .off rfl rfl rfl rfl rfl (by rfl) ?_
     refine .v (f_pick_false (by rfl) rfl) rfl (.c rfl (.c rfl .nil)) .nil ?_
     refine .m rfl ?_
     refine .off rfl rfl rfl rfl rfl (by rfl) ?_
     refine .off rfl rfl rfl rfl rfl (by rfl) ?_
     refine .off rfl rfl rfl rfl rfl (by rfl) ?_
     refine .v (f_pick_false (by rfl) rfl) rfl (.c rfl (.c rfl .nil)) .nil ?_
     refine .a rfl ?_
     refine .nil ?_
     obtain rfl := Option.some.inj h
     refine aq_weak (s' := ⟨[(0, .d (.val (.bool false)))], [], []⟩) id hb0 (.keep rfl .nil) .nil rfl (by rfl) ?_
     exact jq
    replace h := ite_f hc11 h
    refine .off rfl rfl rfl hc11 rfl (by rfl) ?_
    refine .off rfl rfl rfl hc11 rfl (by rfl) ?_
    refine .off rfl rfl rfl hc11 rfl (by rfl) ?_
    refine .v (f_pick_false (by rfl) hc11) rfl (.c rfl (.c rfl .nil)) .nil ?_
    refine .m rfl ?_
    refine .off rfl rfl rfl rfl rfl (by rfl) ?_
    refine .off rfl rfl rfl rfl rfl (by rfl) ?_
    refine .v (f_pick_false (by rfl) rfl) rfl (.c rfl (.c rfl .nil)) .nil ?_
    refine .m rfl ?_
    refine .off rfl rfl rfl rfl rfl (by rfl) ?_
    refine .off rfl rfl rfl rfl rfl (by rfl) ?_
    refine .off rfl rfl rfl rfl rfl (by rfl) ?_
    refine .v (f_pick_false (by rfl) rfl) rfl (.c rfl (.c rfl .nil)) .nil ?_
    refine .m rfl ?_
    refine .off rfl rfl rfl rfl rfl (by rfl) ?_
    refine .off rfl rfl rfl rfl rfl (by rfl) ?_
    refine .off rfl rfl rfl rfl rfl (by rfl) ?_
    refine .v (f_pick_false (by rfl) rfl) rfl (.c rfl (.c rfl .nil)) .nil ?_
    refine .m rfl ?_
    refine .off rfl rfl rfl rfl rfl (by rfl) ?_
    refine .off rfl rfl rfl rfl rfl (by rfl) ?_
    refine .off rfl rfl rfl rfl rfl (by rfl) ?_
    refine .v (f_pick_false (by rfl) rfl) rfl (.c rfl (.c rfl .nil)) .nil ?_
    refine .a rfl ?_
    refine .nil ?_
    obtain rfl := Option.some.inj h
    refine aq_weak (s' := ⟨[(0, .d (.val (.bool false)))], [], []⟩) id hb0 (.keep rfl .nil) .nil rfl (by rfl) ?_
    exact jq
   replace h := ite_f hc10 h
   refine .off rfl rfl rfl hc10 rfl (by rfl) ?_
   refine .off rfl rfl rfl hc10 rfl (by rfl) ?_
   refine .v (f_pick_false (by rfl) hc10) rfl (.c rfl (.c rfl .nil)) .nil ?_
   refine .m rfl ?_
   refine .off rfl rfl rfl rfl rfl (by rfl) ?_
   refine .off rfl rfl rfl rfl rfl (by rfl) ?_
   refine .off rfl rfl rfl rfl rfl (by rfl) ?_
   refine .v (f_pick_false (by rfl) rfl) rfl (.c rfl (.c rfl .nil)) .nil ?_
   refine .m rfl ?_
   refine .off rfl rfl rfl rfl rfl (by rfl) ?_
   refine .off rfl rfl rfl rfl rfl (by rfl) ?_
   refine .v (f_pick_false (by rfl) rfl) rfl (.c rfl (.c rfl .nil)) .nil ?_
   refine .m rfl ?_
   refine .off rfl rfl rfl rfl rfl (by rfl) ?_
   refine .off rfl rfl rfl rfl rfl (by rfl) ?_
   refine .off rfl rfl rfl rfl rfl (by rfl) ?_
   refine .v (f_pick_false (by rfl) rfl) rfl (.c rfl (.c rfl .nil)) .nil ?_
   refine .m rfl ?_
   refine .off rfl rfl rfl rfl rfl (by rfl) ?_
   refine .off rfl rfl rfl rfl rfl (by rfl) ?_
   refine .off rfl rfl rfl rfl rfl (by rfl) ?_
   refine .v (f_pick_false (by rfl) rfl) rfl (.c rfl (.c rfl .nil)) .nil ?_
   refine .m rfl ?_
   refine .off rfl rfl rfl rfl rfl (by rfl) ?_
   refine .off rfl rfl rfl rfl rfl (by rfl) ?_
   refine .off rfl rfl rfl rfl rfl (by rfl) ?_
   refine .v (f_pick_false (by rfl) rfl) rfl (.c rfl (.c rfl .nil)) .nil ?_
   refine .a rfl ?_
   refine .nil ?_
   obtain rfl := Option.some.inj h
   refine aq_weak (s' := ⟨[(0, .d (.val (.bool false)))], [], []⟩) id hb0 (.keep rfl .nil) .nil rfl (by rfl) ?_
   exact jq
  replace h := ite_f hc9 h
  refine .off rfl rfl rfl hc9 rfl (by rfl) ?_
  refine .off rfl rfl rfl hc9 rfl (by rfl) ?_
  refine .v (f_pick_false (by rfl) hc9) rfl (.c rfl (.c rfl .nil)) .nil ?_
  refine .m rfl ?_
  refine .off rfl rfl rfl rfl rfl (by rfl) ?_
  refine .off rfl rfl rfl rfl rfl (by rfl) ?_
  refine .v (f_pick_false (by rfl) rfl) rfl (.c rfl (.c rfl .nil)) .nil ?_
  refine .m rfl ?_
  refine .off rfl rfl rfl rfl rfl (by rfl) ?_
  refine .off rfl rfl rfl rfl rfl (by rfl) ?_
  refine .off rfl rfl rfl rfl rfl (by rfl) ?_
  refine .v (f_pick_false (by rfl) rfl) rfl (.c rfl (.c rfl .nil)) .nil ?_
  refine .m rfl ?_
  refine .off rfl rfl rfl rfl rfl (by rfl) ?_
  refine .off rfl rfl rfl rfl rfl (by rfl) ?_
  refine .v (f_pick_false (by rfl) rfl) rfl (.c rfl (.c rfl .nil)) .nil ?_
  refine .m rfl ?_
  refine .off rfl rfl rfl rfl rfl (by rfl) ?_
  refine .off rfl rfl rfl rfl rfl (by rfl) ?_
  refine .off rfl rfl rfl rfl rfl (by rfl) ?_
  refine .v (f_pick_false (by rfl) rfl) rfl (.c rfl (.c rfl .nil)) .nil ?_
  refine .m rfl ?_
  refine .off rfl rfl rfl rfl rfl (by rfl) ?_
  refine .off rfl rfl rfl rfl rfl (by rfl) ?_
  refine .off rfl rfl rfl rfl rfl (by rfl) ?_
  refine .v (f_pick_false (by rfl) rfl) rfl (.c rfl (.c rfl .nil)) .nil ?_
  refine .m rfl ?_
  refine .off rfl rfl rfl rfl rfl (by rfl) ?_
  refine .off rfl rfl rfl rfl rfl (by rfl) ?_
  refine .off rfl rfl rfl rfl rfl (by rfl) ?_
  refine .v (f_pick_false (by rfl) rfl) rfl (.c rfl (.c rfl .nil)) .nil ?_
  refine .a rfl ?_
  refine .nil ?_
  obtain rfl := Option.some.inj h
  refine aq_weak (s' := ⟨[(0, .d (.val (.bool false)))], [], []⟩) id hb0 (.keep rfl .nil) .nil rfl (by rfl) ?_
  exact jq
 refine aq_then ?_
 refine aw_ret ?_
 obtain rfl := Option.some.inj h
 exact aq_finp hb0 rfl (.tmp rfl (by rfl) .nil) (by rfl) rfl ⟨rfl, rfl⟩

/- 12: beadroll/beadrolllaw21.PoolAny -/
def F12_beadrolllaw21_PoolAny_s0 (n : Nat) (a0 : GTree) (a1 : (List GTx)) (z0_0 : (List GShard)) (z0_1 : (List GShard)) (z0_2 : Int) : Option (((List GShard) × (List GShard) × Int) ⊕ (((List GShard) × (List GShard)) ⊕ (Unit))) :=
  (if (decide (z0_2 < ((a1).length : Int))) = true then ((((rd a1 z0_2).bind fun (x19 : GTx) => ((F68_pool_Submit n z0_0 (64 : Int) a0 x19).bind fun (y22 : (List GShard) × (List GTx) × Int) => ((rd a1 z0_2).bind fun (x24 : GTx) => ((F68_pool_Submit n z0_1 (64 : Int) a0 x24).bind fun (y27 : (List GShard) × (List GTx) × Int) => (((if (y22.2.2 != y27.2.2) = true then some true else ((F20_beadrollref19_SameTxs n y22.2.1 y27.2.1).bind fun (y30 : Bool) => some (!y30)))).bind fun (o32 : Bool) => (if o32 = true then some (.inr ()) else (if (y22.2.2 == (0 : Int)) = true then some (.inl (y22.1, y27.1)) else some (.inl (z0_0, z0_1)))))))))).bind (Sum.elim (fun (j36 : (List GShard) × (List GShard)) => some (.inl (j36.1, j36.2, (IntKind.i64.wrap (z0_2 + (1 : Int)))))) (fun (j36 : Unit) => some (.inr (.inr ()))))) else some (.inr (.inl (z0_0, z0_1))))
def F12_beadrolllaw21_PoolAny_s1 (n : Nat) (a1 : (List GTx)) (j38 : (List GShard) × (List GShard)) (z1_0 : Int) : Option ((Int) ⊕ ((Unit) ⊕ (Unit))) :=
  (if (decide (z1_0 < ((a1).length : Int))) = true then ((rd a1 z1_0).bind fun (x41 : GTx) => ((F39_tx_From n x41).bind fun (y44 : (List Int)) => ((F69_beadrolllaw21_line n j38.1 y44).bind fun (y46 : (List GTx)) => ((F69_beadrolllaw21_line n j38.2 y44).bind fun (y48 : (List GTx)) => ((F20_beadrollref19_SameTxs n y46 y48).bind fun (y50 : Bool) => (if (!y50) = true then some (.inr (.inr ())) else some (.inl (IntKind.i64.wrap (z1_0 + (1 : Int)))))))))) else some (.inr (.inl ())))
def F12_beadrolllaw21_PoolAny (n : Nat) (a0 : GTree) (a1 : (List GTx)) (a2 : Int) : Option (Bool) :=
  ((F66_beadrolllaw21_alive n ).bind fun (y1 : Bool) => ((F25_pool_New n a2).bind fun (y3 : (List GShard) × Int) => ((F25_pool_New n (1 : Int)).bind fun (y5 : (List GShard) × Int) => ((((F62_beadrollref06_Great n a0 (600 : Int)).bind fun (y7 : Bool) => (if y7 = true then some true else (if (decide (((a1).length : Int) > (8 : Int))) = true then some true else ((F67_acct_Check n a0).bind fun (y11 : Int) => (if (y11 != (0 : Int)) = true then some true else (if (y3.2 != (0 : Int)) = true then some true else (if (y5.2 != (0 : Int)) = true then some true else some (!y1))))))))).bind fun (o16 : Bool) => (if o16 = true then some y1 else ((loopF (fun (z : (List GShard) × (List GShard) × Int) => F12_beadrolllaw21_PoolAny_s0 n a0 a1 z.1 z.2.1 z.2.2) n (y3.1, y5.1, (0 : Int))).bind (Sum.elim (fun (j38 : (List GShard) × (List GShard)) => ((loopF (fun (z : Int) => F12_beadrolllaw21_PoolAny_s1 n a1 j38 z) n (0 : Int)).bind (Sum.elim (fun (j53 : Unit) => (((if y1 = true then ((F30_pool_Count n j38.1).bind fun (y56 : Int) => ((F30_pool_Count n j38.2).bind fun (y58 : Int) => some (y56 == y58))) else some false)).bind fun (o60 : Bool) => some o60)) (fun (j53 : Unit) => some false)))) (fun (j38 : Unit) => some false))))))))
theorem F12_beadrolllaw21_PoolAny_ok {n : Nat} {a0 : GTree} {a1 : (List GTx)} {a2 : Int} {r : Bool} (h : F12_beadrolllaw21_PoolAny n a0 a1 a2 = some r) :
    ACall Tryd.prog GS 12 [.d (eGTree a0), .d (eL24 a1), .d (.val (.int .i64 a2))] [] (fun r' hp' => r' = .d (.val (.bool r)) ∧ hp' = []) := by
 refine acall_of_body mixed Tryd.func12 rfl (by rfl) ?_
 intro C hro hgl hb0
 unfold F12_beadrolllaw21_PoolAny at h
 refine aw_rs ?_
 refine .n (f_box 3 (by rfl) (by rfl)) rfl (.c rfl .nil) rfl ?_
 refine .a rfl ?_
 refine .z ?_
 obtain ⟨y1, hy2, h⟩ := bind_some h
 refine .v (f_callP hgl (by rfl) en66 rfl (by rfl) (by rfl) (by rfl) (F66_beadrolllaw21_alive_ok hy2)) rfl .nil .nil ?_
 refine .a rfl ?_
 refine .z ?_
 refine .m rfl ?_
 obtain ⟨y3, hy4, h⟩ := bind_some h
 refine .v (f_callP hgl (by rfl) en25 rfl (by rfl) (by rfl) (by rfl) (F25_pool_New_ok hy4)) rfl (.c rfl .nil) .nil ?_
 refine .m rfl ?_
 refine .v (f_extract (by rfl) rfl) rfl (.c rfl .nil) .nil ?_
 refine .v (f_extract (by rfl) rfl) rfl (.c rfl .nil) .nil ?_
 refine .a rfl ?_
 refine .a rfl ?_
 refine .z ?_
 obtain ⟨y5, hy6, h⟩ := bind_some h
 refine .v (f_callP hgl (by rfl) en25 rfl (by rfl) (by rfl) (by rfl) (F25_pool_New_ok hy6)) rfl (.c rfl .nil) .nil ?_
 refine .m rfl ?_
 refine .v (f_extract (by rfl) rfl) rfl (.c rfl .nil) .nil ?_
 refine .v (f_extract (by rfl) rfl) rfl (.c rfl .nil) .nil ?_
 refine .a rfl ?_
 refine .a rfl ?_
 refine .nil (aq_then ?_)
 refine aw_seq ?_
 refine aw_seq ?_
 obtain ⟨o16, ho62, h⟩ := bind_some h
 refine aw_join (.normal) ⟨[(1, .d (eL24 a1)), (3, .ptr 3 0 []), (7, .d (.val (.bool y1))), (8, .d (eL41 y3.1)), (10, .d (eL41 y5.1)), (54, .d (.val (.bool o16)))], [(3, .av (.d (eGTree a0)))], []⟩ ?_ ?_
 ·replace h := ho62
  refine aw_r ?_
  refine .l 3 0 [] (.d (eGTree a0)) (.d (eGTree a0)) ty90 ?_
  obtain ⟨y7, hy8, h⟩ := bind_some h
  refine .v (f_callP hgl (by rfl) en62 rfl (by rfl) (by rfl) (by rfl) (F62_beadrollref06_Great_ok hy8)) rfl (.c rfl (.c rfl .nil)) .nil ?_
  refine .m rfl ?_
  rcases Bool.eq_false_or_eq_true y7 with hc9 | hc9
  ·replace h := ite_t hc9 h
   refine .off rfl rfl rfl hc9 rfl (by rfl) ?_
   refine .off rfl rfl rfl hc9 rfl (by rfl) ?_
   refine .off rfl rfl rfl hc9 rfl (by rfl) ?_
   refine .v (f_pick_true (by rfl) hc9) rfl (.c rfl (.c rfl .nil)) .nil ?_
   refine .m rfl ?_
   refine .off rfl rfl rfl rfl rfl (by rfl) ?_
   refine .off rfl rfl rfl rfl rfl (by rfl) ?_
   refine .off rfl rfl rfl rfl rfl (by rfl) ?_
   refine .v (f_pick_true (by rfl) rfl) rfl (.c rfl (.c rfl .nil)) .nil ?_
   refine .m rfl ?_
   refine .off rfl rfl rfl rfl rfl (by rfl) ?_
   refine .off rfl rfl rfl rfl rfl (by rfl) ?_
   refine .v (f_pick_true (by rfl) rfl) rfl (.c rfl (.c rfl .nil)) .nil ?_
   refine .m rfl ?_
   refine .off rfl rfl rfl rfl rfl (by rfl) ?_
   refine .off rfl rfl rfl rfl rfl (by rfl) ?_
   refine .v (f_pick_true (by rfl) rfl) rfl (.c rfl (.c rfl .nil)) .nil ?_
   refine .m rfl ?_
   refine .off rfl rfl rfl rfl rfl (by rfl) ?_
   refine .off rfl rfl rfl rfl rfl (by rfl) ?_
   refine .v (f_pick_true (by rfl) rfl) rfl (.c rfl (.c rfl .nil)) .nil ?_
   refine .nil ?_
   obtain rfl := Option.some.inj h
   refine aq_weak (s' := ⟨[(1, .d (eL24 a1)), (3, .ptr 3 0 []), (7, .d (.val (.bool y1))), (8, .d (eL41 y3.1)), (10, .d (eL41 y5.1)), (54, .d (.val (.bool true)))], [(3, .av (.d (eGTree a0)))], []⟩) id hb0 (.keep rfl (.keep rfl (.keep rfl (.keep rfl (.keep rfl (.keep rfl .nil)))))) (.keep rfl .nil) rfl (by rfl) ?_
   exact jq
  replace h := ite_f hc9 h
  refine .gv (f_move (by rfl)) rfl rfl rfl hc9 (.c rfl .nil) .nil ?_
  refine .gv (f_lenD (n := (a1).length) (by rfl) sl24 rfl (by simp)) rfl rfl rfl hc9 (.c rfl .nil) .nil ?_
  refine .gv (f_binI (by rfl) rfl (by rfl)) rfl rfl rfl hc9 (.c rfl (.c rfl .nil)) .nil ?_
  refine .v (f_pick_false (by rfl) hc9) rfl (.c rfl (.c rfl .nil)) .nil ?_
  refine .m rfl ?_
  rcases Bool.eq_false_or_eq_true (decide (((a1).length : Int) > (8 : Int))) with hc10 | hc10
  ·replace h := ite_t hc10 h
   refine .off rfl rfl rfl hc10 rfl (by rfl) ?_
   refine .off rfl rfl rfl hc10 rfl (by rfl) ?_
   refine .off rfl rfl rfl hc10 rfl (by rfl) ?_
   refine .v (f_pick_true (by rfl) hc10) rfl (.c rfl (.c rfl .nil)) .nil ?_
   refine .m rfl ?_
   refine .off rfl rfl rfl rfl rfl (by rfl) ?_
   refine .off rfl rfl rfl rfl rfl (by rfl) ?_
   refine .v (f_pick_true (by rfl) rfl) rfl (.c rfl (.c rfl .nil)) .nil ?_
   refine .m rfl ?_
   refine .off rfl rfl rfl rfl rfl (by rfl) ?_
   refine .off rfl rfl rfl rfl rfl (by rfl) ?_
   refine .v (f_pick_true (by rfl) rfl) rfl (.c rfl (.c rfl .nil)) .nil ?_
   refine .m rfl ?_
   refine .off rfl rfl rfl rfl rfl (by rfl) ?_
   refine .off rfl rfl rfl rfl rfl (by rfl) ?_
   refine .v (f_pick_true (by rfl) rfl) rfl (.c rfl (.c rfl .nil)) .nil ?_
   refine .nil ?_
   obtain rfl := Option.some.inj h
   refine aq_weak (s' := ⟨[(1, .d (eL24 a1)), (3, .ptr 3 0 []), (7, .d (.val (.bool y1))), (8, .d (eL41 y3.1)), (10, .d (eL41 y5.1)), (54, .d (.val (.bool true)))], [(3, .av (.d (eGTree a0)))], []⟩) id hb0 (.keep rfl (.keep rfl (.keep rfl (.keep rfl (.keep rfl (.keep rfl .nil)))))) (.keep rfl .nil) rfl (by rfl) ?_
   exact jq
  replace h := ite_f hc10 h
  refine .gv (f_load (n := 0) (o := 3) (off := 0) (p := []) (c := .d (eGTree a0)) (z := .d (eGTree a0)) (by rfl) rfl ty90 (by rfl)) rfl rfl rfl hc10 (.c rfl .nil) (.cons rfl .nil) ?_
  obtain ⟨y11, hy12, h⟩ := bind_some h
  refine .gv (f_callP hgl (by rfl) en67 rfl (by rfl) (by rfl) (by rfl) (F67_acct_Check_ok hy12)) rfl rfl rfl hc10 (.c rfl .nil) .nil ?_
  refine .gv (f_binI (by rfl) rfl (by rfl)) rfl rfl rfl hc10 (.c rfl (.c rfl .nil)) .nil ?_
  refine .v (f_pick_false (by rfl) hc10) rfl (.c rfl (.c rfl .nil)) .nil ?_
  refine .m rfl ?_
  rcases Bool.eq_false_or_eq_true (y11 != (0 : Int)) with hc13 | hc13
  ·replace h := ite_t hc13 h
   refine .off rfl rfl rfl hc13 rfl (by rfl) ?_
   refine .off rfl rfl rfl hc13 rfl (by rfl) ?_
   refine .v (f_pick_true (by rfl) hc13) rfl (.c rfl (.c rfl .nil)) .nil ?_
   refine .m rfl ?_
   refine .off rfl rfl rfl rfl rfl (by rfl) ?_
   refine .off rfl rfl rfl rfl rfl (by rfl) ?_
   refine .v (f_pick_true (by rfl) rfl) rfl (.c rfl (.c rfl .nil)) .nil ?_
   refine .m rfl ?_
   refine .off rfl rfl rfl rfl rfl (by rfl) ?_
   refine .off rfl rfl rfl rfl rfl (by rfl) ?_
   refine .v (f_pick_true (by rfl) rfl) rfl (.c rfl (.c rfl .nil)) .nil ?_
   refine .nil ?_
   obtain rfl := Option.some.inj h
   refine aq_weak (s' := ⟨[(1, .d (eL24 a1)), (3, .ptr 3 0 []), (7, .d (.val (.bool y1))), (8, .d (eL41 y3.1)), (10, .d (eL41 y5.1)), (54, .d (.val (.bool true)))], [(3, .av (.d (eGTree a0)))], []⟩) id hb0 (.keep rfl (.keep rfl (.keep rfl (.keep rfl (.keep rfl (.keep rfl .nil)))))) (.keep rfl .nil) rfl (by rfl) ?_
   exact jq
  replace h := ite_f hc13 h
  refine .gv (f_move (by rfl)) rfl rfl rfl hc13 (.c rfl .nil) .nil ?_
  refine .gv (f_binI (by rfl) rfl (by rfl)) rfl rfl rfl hc13 (.c rfl (.c rfl .nil)) .nil ?_
  refine .v (f_pick_false (by rfl) hc13) rfl (.c rfl (.c rfl .nil)) .nil ?_
  refine .m rfl ?_
  rcases Bool.eq_false_or_eq_true (y3.2 != (0 : Int)) with hc14 | hc14
  ·replace h := ite_t hc14 h
   refine .off rfl rfl rfl hc14 rfl (by rfl) ?_
   refine .off rfl rfl rfl hc14 rfl (by rfl) ?_
   refine .v (f_pick_true (by rfl) hc14) rfl (.c rfl (.c rfl .nil)) .nil ?_
   refine .m rfl ?_
   refine .off rfl rfl rfl rfl rfl (by rfl) ?_
   refine .off rfl rfl rfl rfl rfl (by rfl) ?_
   refine .v (f_pick_true (by rfl) rfl) rfl (.c rfl (.c rfl .nil)) .nil ?_
   refine .nil ?_
   obtain rfl := Option.some.inj h
   refine aq_weak (s' := ⟨[(1, .d (eL24 a1)), (3, .ptr 3 0 []), (7, .d (.val (.bool y1))), (8, .d (eL41 y3.1)), (10, .d (eL41 y5.1)), (54, .d (.val (.bool true)))], [(3, .av (.d (eGTree a0)))], []⟩) id hb0 (.keep rfl (.keep rfl (.keep rfl (.keep rfl (.keep rfl (.keep rfl .nil)))))) (.keep rfl .nil) rfl (by rfl) ?_
   exact jq
  replace h := ite_f hc14 h
  refine .gv (f_move (by rfl)) rfl rfl rfl hc14 (.c rfl .nil) .nil ?_
  refine .gv (f_binI (by rfl) rfl (by rfl)) rfl rfl rfl hc14 (.c rfl (.c rfl .nil)) .nil ?_
  refine .v (f_pick_false (by rfl) hc14) rfl (.c rfl (.c rfl .nil)) .nil ?_
  refine .m rfl ?_
  rcases Bool.eq_false_or_eq_true (y5.2 != (0 : Int)) with hc15 | hc15
  ·replace h := ite_t hc15 h
   refine .off rfl rfl rfl hc15 rfl (by rfl) ?_
   refine .off rfl rfl rfl hc15 rfl (by rfl) ?_
   refine .v (f_pick_true (by rfl) hc15) rfl (.c rfl (.c rfl .nil)) .nil ?_
   refine .nil ?_
   obtain rfl := Option.some.inj h
   refine aq_weak (s' := ⟨[(1, .d (eL24 a1)), (3, .ptr 3 0 []), (7, .d (.val (.bool y1))), (8, .d (eL41 y3.1)), (10, .d (eL41 y5.1)), (54, .d (.val (.bool true)))], [(3, .av (.d (eGTree a0)))], []⟩) id hb0 (.keep rfl (.keep rfl (.keep rfl (.keep rfl (.keep rfl (.keep rfl .nil)))))) (.keep rfl .nil) rfl (by rfl) ?_
   exact jq
  replace h := ite_f hc15 h
  refine .gv (f_move (by rfl)) rfl rfl rfl hc15 (.c rfl .nil) .nil ?_
  refine .gv (f_not (by rfl)) rfl rfl rfl hc15 (.c rfl .nil) .nil ?_
  refine .v (f_pick_false (by rfl) hc15) rfl (.c rfl (.c rfl .nil)) .nil ?_
  refine .nil ?_
  obtain rfl := Option.some.inj h
  refine aq_weak (s' := ⟨[(1, .d (eL24 a1)), (3, .ptr 3 0 []), (7, .d (.val (.bool y1))), (8, .d (eL41 y3.1)), (10, .d (eL41 y5.1)), (54, .d (.val (.bool (!y1))))], [(3, .av (.d (eGTree a0)))], []⟩) id hb0 (.keep rfl (.keep rfl (.keep rfl (.keep rfl (.keep rfl (.keep rfl .nil)))))) (.keep rfl .nil) rfl (by rfl) ?_
  exact jq
 refine aq_then ?_
 refine aw_cond rfl (fun hc17 => ?_) (fun hc17 => ?_)
 ·replace h := ite_t hc17 h
  refine aw_rs ?_
  refine .m rfl ?_
  refine .a rfl ?_
  refine .nil (aq_then ?_)
  refine aw_ret ?_
  refine aq_then_ret ?_
  obtain rfl := Option.some.inj h
  exact aq_finp hb0 rfl (.tmp rfl (by rfl) .nil) (by rfl) rfl ⟨rfl, rfl⟩
 replace h := ite_f hc17 h
 refine aw_skip ?_
 refine aq_then ?_
 refine aw_seq ?_
 refine aw_rs ?_
 refine .a rfl ?_
 refine .nil (aq_then ?_)
 refine aw_block ?_
 refine aw_weak (s' := ⟨[(1, .d (eL24 a1)), (3, .ptr 3 0 []), (7, .d (.val (.bool y1))), (8, .d (eL41 y3.1)), (10, .d (eL41 y5.1)), (12, .d (.val (.int .i64 (0 : Int))))], [(3, .av (.d (eGTree a0)))], []⟩) id hb0 (.keep rfl (.keep rfl (.keep rfl (.keep rfl (.keep rfl (.keep rfl .nil)))))) (.keep rfl .nil) rfl (by rfl) ?_
 obtain ⟨o38, ho39, h⟩ := bind_some h
 refine aw_loopX (σ := (List GShard) × (List GShard) × Int) (fun z => ⟨[(1, .d (eL24 a1)), (3, .ptr 3 0 []), (7, .d (.val (.bool y1))), (8, .d (eL41 z.1)), (10, .d (eL41 z.2.1)), (12, .d (.val (.int .i64 z.2.2)))], [(3, .av (.d (eGTree a0)))], []⟩) (Sum.elim (fun _ => .exit 0) (fun _ => .ret)) (Sum.elim (fun j38 => ⟨[(1, .d (eL24 a1)), (7, .d (.val (.bool y1))), (8, .d (eL41 j38.1)), (10, .d (eL41 j38.2))], [], []⟩) (fun j38 => ⟨[(6, .d (.val (.bool false)))], [], []⟩)) ho39 (by intro b; rcases b with _ | _ <;> rfl) ?_ ?_
 ·clear h ho39
  rintro ⟨z0_0, z0_1, z0_2⟩ o h
  change F12_beadrolllaw21_PoolAny_s0 n a0 a1 z0_0 z0_1 z0_2 = some o at h
  unfold F12_beadrolllaw21_PoolAny_s0 at h
  show AW _ _ _ ⟨[(1, .d (eL24 a1)), (3, .ptr 3 0 []), (7, .d (.val (.bool y1))), (8, .d (eL41 z0_0)), (10, .d (eL41 z0_1)), (12, .d (.val (.int .i64 z0_2)))], [(3, .av (.d (eGTree a0)))], []⟩
  refine aw_seq ?_
  refine aw_rs ?_
  refine .m rfl ?_
  refine .m rfl ?_
  refine .v (f_lenD (n := (a1).length) (by rfl) sl24 rfl (by simp)) rfl (.c rfl .nil) .nil ?_
  refine .b rfl rfl rfl ?_
  refine .nil (aq_then ?_)
  refine aw_cond rfl (fun hc18 => ?_) (fun hc18 => ?_)
  ·replace h := ite_t hc18 h
   refine aw_skip ?_
   refine aq_then ?_
   refine aw_seq ?_
   obtain ⟨o36, ho37, h⟩ := bind_some h
   refine aw_join ((Sum.elim (fun _ => .normal) (fun _ => .ret)) o36) ((Sum.elim (fun j36 => ⟨[(1, .d (eL24 a1)), (3, .ptr 3 0 []), (7, .d (.val (.bool y1))), (8, .d (eL41 j36.1)), (10, .d (eL41 j36.2)), (12, .d (.val (.int .i64 z0_2)))], [(3, .av (.d (eGTree a0)))], []⟩) (fun j36 => ⟨[(6, .d (.val (.bool false)))], [], []⟩)) o36) ?_ ?_
   ·replace h := ho37
    refine aw_block ?_
    refine aw_rds ?_
    refine .v (f_move (by rfl)) rfl (.c rfl .nil) .nil ?_
    refine .v (f_load (n := 0) (o := 3) (off := 0) (p := []) (c := .d (eGTree a0)) (z := .d (eGTree a0)) (by rfl) rfl ty90 (by rfl)) rfl (.c rfl .nil) (.cons rfl .nil) ?_
    refine .v (f_move (by rfl)) rfl (.c rfl .nil) .nil ?_
    refine .v (f_move (by rfl)) rfl (.c rfl .nil) .nil ?_
    obtain ⟨x19, hx20, h⟩ := bind_some h
    obtain ⟨hx21, hx20⟩ := rd_some hx20
    refine .v (f_indexS (by rfl) sl24 hx21 (rd_map _ hx20)) rfl (.c rfl (.c rfl .nil)) .nil ?_
    refine .v (f_loadR (z := (eGTx x19)) (by rfl) ty36) rfl (.c rfl .nil) .nil ?_
    obtain ⟨y22, hy23, h⟩ := bind_some h
    refine .v (f_callP hgl (by rfl) en68 rfl (by rfl) (by rfl) (by rfl) (F68_pool_Submit_ok hy23)) rfl (.c rfl (.c rfl (.c rfl (.c rfl .nil)))) .nil ?_
    refine .v (f_move (by rfl)) rfl (.c rfl .nil) .nil ?_
    refine .v (f_extract (by rfl) rfl) rfl (.c rfl .nil) .nil ?_
    refine .v (f_extract (by rfl) rfl) rfl (.c rfl .nil) .nil ?_
    refine .v (f_extract (by rfl) rfl) rfl (.c rfl .nil) .nil ?_
    refine .v (f_assign (by rfl)) rfl (.c rfl .nil) .nil ?_
    refine .v (f_assign (by rfl)) rfl (.c rfl .nil) .nil ?_
    refine .v (f_assign (by rfl)) rfl (.c rfl .nil) .nil ?_
    refine .nil (by kernel_rfl) ?_
    refine aw_rds ?_
    refine .v (f_move (by rfl)) rfl (.c rfl .nil) .nil ?_
    refine .v (f_load (n := 0) (o := 3) (off := 0) (p := []) (c := .d (eGTree a0)) (z := .d (eGTree a0)) (by rfl) rfl ty90 (by rfl)) rfl (.c rfl .nil) (.cons rfl .nil) ?_
    refine .v (f_move (by rfl)) rfl (.c rfl .nil) .nil ?_
    refine .v (f_move (by rfl)) rfl (.c rfl .nil) .nil ?_
    obtain ⟨x24, hx25, h⟩ := bind_some h
    obtain ⟨hx26, hx25⟩ := rd_some hx25
    refine .v (f_indexS (by rfl) sl24 hx26 (rd_map _ hx25)) rfl (.c rfl (.c rfl .nil)) .nil ?_
    refine .v (f_loadR (z := (eGTx x24)) (by rfl) ty36) rfl (.c rfl .nil) .nil ?_
    obtain ⟨y27, hy28, h⟩ := bind_some h
    refine .v (f_callP hgl (by rfl) en68 rfl (by rfl) (by rfl) (by rfl) (F68_pool_Submit_ok hy28)) rfl (.c rfl (.c rfl (.c rfl (.c rfl .nil)))) .nil ?_
    refine .v (f_move (by rfl)) rfl (.c rfl .nil) .nil ?_
    refine .v (f_extract (by rfl) rfl) rfl (.c rfl .nil) .nil ?_
    refine .v (f_extract (by rfl) rfl) rfl (.c rfl .nil) .nil ?_
    refine .v (f_extract (by rfl) rfl) rfl (.c rfl .nil) .nil ?_
    refine .v (f_assign (by rfl)) rfl (.c rfl .nil) .nil ?_
    refine .v (f_assign (by rfl)) rfl (.c rfl .nil) .nil ?_
    refine .v (f_assign (by rfl)) rfl (.c rfl .nil) .nil ?_
    refine .nil (by kernel_rfl) ?_
    refine aw_seq ?_
    refine aw_seq ?_
    obtain ⟨o32, ho35, h⟩ := bind_some h
    refine aw_join (.normal) ⟨[(1, .d (eL24 a1)), (3, .ptr 3 0 []), (7, .d (.val (.bool y1))), (8, .d (eL41 z0_0)), (10, .d (eL41 z0_1)), (12, .d (.val (.int .i64 z0_2))), (13, .d (eL41 y22.1)), (15, .d (.val (.int .i64 y22.2.2))), (16, .d (eL41 y27.1)), (92, .d (.val (.bool o32)))], [(3, .av (.d (eGTree a0)))], []⟩ ?_ ?_
    ·replace h := ho35
     refine aw_r ?_
     refine .m rfl ?_
     refine .m rfl ?_
     refine .b rfl rfl rfl ?_
     refine .m rfl ?_
     rcases Bool.eq_false_or_eq_true (y22.2.2 != y27.2.2) with hc29 | hc29
     ·replace h := ite_t hc29 h
      refine .off rfl rfl rfl hc29 rfl (by rfl) ?_
      refine .off rfl rfl rfl hc29 rfl (by rfl) ?_
      refine .off rfl rfl rfl hc29 rfl (by rfl) ?_
      refine .off rfl rfl rfl hc29 rfl (by rfl) ?_
      refine .v (f_pick_true (by rfl) hc29) rfl (.c rfl (.c rfl .nil)) .nil ?_
      refine .nil ?_
      obtain rfl := Option.some.inj h
      refine aq_weak (s' := ⟨[(1, .d (eL24 a1)), (3, .ptr 3 0 []), (7, .d (.val (.bool y1))), (8, .d (eL41 z0_0)), (10, .d (eL41 z0_1)), (12, .d (.val (.int .i64 z0_2))), (13, .d (eL41 y22.1)), (15, .d (.val (.int .i64 y22.2.2))), (16, .d (eL41 y27.1)), (92, .d (.val (.bool true)))], [(3, .av (.d (eGTree a0)))], []⟩) id hb0 (.keep rfl (.keep rfl (.keep rfl (.keep rfl (.keep rfl (.keep rfl (.keep rfl (.keep rfl (.keep rfl (.keep rfl .nil)))))))))) (.keep rfl .nil) rfl (by rfl) ?_
      exact jq
     replace h := ite_f hc29 h
     refine .gv (f_move (by rfl)) rfl rfl rfl hc29 (.c rfl .nil) .nil ?_
     refine .gv (f_move (by rfl)) rfl rfl rfl hc29 (.c rfl .nil) .nil ?_
     obtain ⟨y30, hy31, h⟩ := bind_some h
     refine .gv (f_callP hgl (by rfl) en20 rfl (by rfl) (by rfl) (by rfl) (F20_beadrollref19_SameTxs_ok hy31)) rfl rfl rfl hc29 (.c rfl (.c rfl .nil)) .nil ?_
     refine .gv (f_not (by rfl)) rfl rfl rfl hc29 (.c rfl .nil) .nil ?_
     refine .v (f_pick_false (by rfl) hc29) rfl (.c rfl (.c rfl .nil)) .nil ?_
     refine .nil ?_
     obtain rfl := Option.some.inj h
     refine aq_weak (s' := ⟨[(1, .d (eL24 a1)), (3, .ptr 3 0 []), (7, .d (.val (.bool y1))), (8, .d (eL41 z0_0)), (10, .d (eL41 z0_1)), (12, .d (.val (.int .i64 z0_2))), (13, .d (eL41 y22.1)), (15, .d (.val (.int .i64 y22.2.2))), (16, .d (eL41 y27.1)), (92, .d (.val (.bool (!y30))))], [(3, .av (.d (eGTree a0)))], []⟩) id hb0 (.keep rfl (.keep rfl (.keep rfl (.keep rfl (.keep rfl (.keep rfl (.keep rfl (.keep rfl (.keep rfl (.keep rfl .nil)))))))))) (.keep rfl .nil) rfl (by rfl) ?_
     exact jq
    refine aq_then ?_
    refine aw_cond rfl (fun hc33 => ?_) (fun hc33 => ?_)
    ·replace h := ite_t hc33 h
     refine aw_rs ?_
     refine .a rfl ?_
     refine .nil (aq_then ?_)
     refine aw_ret ?_
     refine aq_then_ret ?_
     refine aq_block_ret ?_
     obtain rfl := Option.some.inj h
     refine aq_weak (s' := ⟨[(6, .d (.val (.bool false)))], [], []⟩) id hb0 (.keep rfl .nil) .nil rfl (by rfl) ?_
     exact jq
    replace h := ite_f hc33 h
    refine aw_skip ?_
    refine aq_then ?_
    refine aw_rs ?_
    refine .m rfl ?_
    refine .b rfl rfl rfl ?_
    refine .nil (aq_then ?_)
    refine aw_cond rfl (fun hc34 => ?_) (fun hc34 => ?_)
    ·replace h := ite_t hc34 h
     refine aw_r ?_
     refine .m rfl ?_
     refine .m rfl ?_
     refine .a rfl ?_
     refine .a rfl ?_
     refine .nil ?_
     refine aq_block ?_
     obtain rfl := Option.some.inj h
     refine aq_weak (s' := ⟨[(1, .d (eL24 a1)), (3, .ptr 3 0 []), (7, .d (.val (.bool y1))), (8, .d (eL41 y22.1)), (10, .d (eL41 y27.1)), (12, .d (.val (.int .i64 z0_2)))], [(3, .av (.d (eGTree a0)))], []⟩) id hb0 (.keep rfl (.keep rfl (.keep rfl (.keep rfl (.keep rfl (.keep rfl .nil)))))) (.keep rfl .nil) rfl (by rfl) ?_
     exact jq
    replace h := ite_f hc34 h
    refine aw_skip ?_
    refine aq_block ?_
    obtain rfl := Option.some.inj h
    refine aq_weak (s' := ⟨[(1, .d (eL24 a1)), (3, .ptr 3 0 []), (7, .d (.val (.bool y1))), (8, .d (eL41 z0_0)), (10, .d (eL41 z0_1)), (12, .d (.val (.int .i64 z0_2)))], [(3, .av (.d (eGTree a0)))], []⟩) id hb0 (.keep rfl (.keep rfl (.keep rfl (.keep rfl (.keep rfl (.keep rfl .nil)))))) (.keep rfl .nil) rfl (by rfl) ?_
    exact jq
   rcases o36 with j36 | j36
   ·replace h := elim_l h
    refine aq_then ?_
    refine aw_r ?_
    refine .m rfl ?_
    refine .b rfl rfl rfl ?_
    refine .a rfl ?_
    refine .nil ?_
    obtain rfl := Option.some.inj h
    refine aq_weak (s' := ⟨[(1, .d (eL24 a1)), (3, .ptr 3 0 []), (7, .d (.val (.bool y1))), (8, .d (eL41 j36.1)), (10, .d (eL41 j36.2)), (12, .d (.val (.int .i64 (IntKind.i64.wrap (z0_2 + (1 : Int))))))], [(3, .av (.d (eGTree a0)))], []⟩) id hb0 (.keep rfl (.keep rfl (.keep rfl (.keep rfl (.keep rfl (.keep rfl .nil)))))) (.keep rfl .nil) rfl (by rfl) ?_
    exact jq
   replace h := elim_r h
   refine aq_then_ret ?_
   obtain rfl := Option.some.inj h
   refine aq_weak (s' := ⟨[(6, .d (.val (.bool false)))], [], []⟩) id hb0 (.keep rfl .nil) .nil rfl (by rfl) ?_
   exact jq
  replace h := ite_f hc18 h
  refine aw_exit ?_
  refine aq_then_exit ?_
  obtain rfl := Option.some.inj h
  refine aq_weak (s' := ⟨[(1, .d (eL24 a1)), (7, .d (.val (.bool y1))), (8, .d (eL41 z0_0)), (10, .d (eL41 z0_1))], [], []⟩) id hb0 (.keep rfl (.keep rfl (.keep rfl (.keep rfl .nil)))) .nil rfl (by rfl) ?_
  exact jq
 rcases o38 with j38 | j38
 ·replace h := elim_l h
  refine aq_block_exit ?_
  refine aq_then ?_
  refine aw_seq ?_
  refine aw_rs ?_
  refine .a rfl ?_
  refine .nil (aq_then ?_)
  refine aw_block ?_
  refine aw_weak (s' := ⟨[(1, .d (eL24 a1)), (7, .d (.val (.bool y1))), (8, .d (eL41 j38.1)), (10, .d (eL41 j38.2)), (19, .d (.val (.int .i64 (0 : Int))))], [], []⟩) id hb0 (.keep rfl (.keep rfl (.keep rfl (.keep rfl (.keep rfl .nil))))) .nil rfl (by rfl) ?_
  obtain ⟨o53, ho54, h⟩ := bind_some h
  refine aw_loopX (σ := Int) (fun z => ⟨[(1, .d (eL24 a1)), (7, .d (.val (.bool y1))), (8, .d (eL41 j38.1)), (10, .d (eL41 j38.2)), (19, .d (.val (.int .i64 z)))], [], []⟩) (Sum.elim (fun _ => .exit 2) (fun _ => .ret)) (Sum.elim (fun j53 => ⟨[(7, .d (.val (.bool y1))), (8, .d (eL41 j38.1)), (10, .d (eL41 j38.2))], [], []⟩) (fun j53 => ⟨[(6, .d (.val (.bool false)))], [], []⟩)) ho54 (by intro b; rcases b with _ | _ <;> rfl) ?_ ?_
  ·clear h ho54
   intro z1_0 o h
   change F12_beadrolllaw21_PoolAny_s1 n a1 j38 z1_0 = some o at h
   unfold F12_beadrolllaw21_PoolAny_s1 at h
   show AW _ _ _ ⟨[(1, .d (eL24 a1)), (7, .d (.val (.bool y1))), (8, .d (eL41 j38.1)), (10, .d (eL41 j38.2)), (19, .d (.val (.int .i64 z1_0)))], [], []⟩
   refine aw_seq ?_
   refine aw_rs ?_
   refine .m rfl ?_
   refine .m rfl ?_
   refine .v (f_lenD (n := (a1).length) (by rfl) sl24 rfl (by simp)) rfl (.c rfl .nil) .nil ?_
   refine .b rfl rfl rfl ?_
   refine .nil (aq_then ?_)
   refine aw_cond rfl (fun hc40 => ?_) (fun hc40 => ?_)
   ·replace h := ite_t hc40 h
    refine aw_skip ?_
    refine aq_then ?_
    refine aw_seq ?_
    refine aw_block ?_
    refine aw_rs ?_
    refine .m rfl ?_
    refine .m rfl ?_
    obtain ⟨x41, hx42, h⟩ := bind_some h
    obtain ⟨hx43, hx42⟩ := rd_some hx42
    refine .v (f_indexS (by rfl) sl24 hx43 (rd_map _ hx42)) rfl (.c rfl (.c rfl .nil)) .nil ?_
    refine .v (f_loadR (z := (eGTx x41)) (by rfl) ty36) rfl (.c rfl .nil) .nil ?_
    obtain ⟨y44, hy45, h⟩ := bind_some h
    refine .v (f_callP hgl (by rfl) en39 rfl (by rfl) (by rfl) (by rfl) (F39_tx_From_ok hy45)) rfl (.c rfl .nil) .nil ?_
    refine .n (f_alloc 20 (by rfl) zr23) rfl .nil rfl ?_
    refine .s (f_store (n := 0) (o := 20) (off := 0) (p := []) (c := .d (eA22 (List.replicate 32 (0 : Int)))) (old := .d (eA22 (List.replicate 32 (0 : Int)))) (z := .d (eA22 y44)) (c' := .d (eA22 y44)) rfl rfl (by rfl) ty23 (by rfl)) rfl (.c rfl (.c rfl .nil)) (.cons rfl .nil) ?_
    refine .nil (aq_then ?_)
    refine aw_rds ?_
    refine .v (f_move (by rfl)) rfl (.c rfl .nil) .nil ?_
    refine .v (f_load (n := 0) (o := 20) (off := 0) (p := []) (c := .d (eA22 y44)) (z := .d (eA22 y44)) (by rfl) rfl ty23 (by rfl)) rfl (.c rfl .nil) (.cons rfl .nil) ?_
    obtain ⟨y46, hy47, h⟩ := bind_some h
    refine .v (f_callP hgl (by rfl) en69 rfl (by rfl) (by rfl) (by rfl) (F69_beadrolllaw21_line_ok hy47)) rfl (.c rfl (.c rfl .nil)) .nil ?_
    refine .v (f_move (by rfl)) rfl (.c rfl .nil) .nil ?_
    refine .v (f_load (n := 0) (o := 20) (off := 0) (p := []) (c := .d (eA22 y44)) (z := .d (eA22 y44)) (by rfl) rfl ty23 (by rfl)) rfl (.c rfl .nil) (.cons rfl .nil) ?_
    obtain ⟨y48, hy49, h⟩ := bind_some h
    refine .v (f_callP hgl (by rfl) en69 rfl (by rfl) (by rfl) (by rfl) (F69_beadrolllaw21_line_ok hy49)) rfl (.c rfl (.c rfl .nil)) .nil ?_
    obtain ⟨y50, hy51, h⟩ := bind_some h
    refine .v (f_callP hgl (by rfl) en20 rfl (by rfl) (by rfl) (by rfl) (F20_beadrollref19_SameTxs_ok hy51)) rfl (.c rfl (.c rfl .nil)) .nil ?_
    refine .v (f_not (by rfl)) rfl (.c rfl .nil) .nil ?_
    refine .nil (by kernel_rfl) ?_
    refine aw_cond rfl (fun hc52 => ?_) (fun hc52 => ?_)
    ·replace h := ite_t hc52 h
     refine aw_rs ?_
     refine .a rfl ?_
     refine .nil (aq_then ?_)
     refine aw_ret ?_
     refine aq_block_ret ?_
     refine aq_then_ret ?_
     obtain rfl := Option.some.inj h
     refine aq_weak (s' := ⟨[(6, .d (.val (.bool false)))], [], []⟩) id hb0 (.keep rfl .nil) .nil rfl (by rfl) ?_
     exact jq
    replace h := ite_f hc52 h
    refine aw_skip ?_
    refine aq_block ?_
    refine aq_then ?_
    refine aw_r ?_
    refine .m rfl ?_
    refine .b rfl rfl rfl ?_
    refine .a rfl ?_
    refine .nil ?_
    obtain rfl := Option.some.inj h
    refine aq_weak (s' := ⟨[(1, .d (eL24 a1)), (7, .d (.val (.bool y1))), (8, .d (eL41 j38.1)), (10, .d (eL41 j38.2)), (19, .d (.val (.int .i64 (IntKind.i64.wrap (z1_0 + (1 : Int))))))], [], []⟩) id hb0 (.keep rfl (.keep rfl (.keep rfl (.keep rfl (.keep rfl .nil))))) .nil rfl (by rfl) ?_
    exact jq
   replace h := ite_f hc40 h
   refine aw_exit ?_
   refine aq_then_exit ?_
   obtain rfl := Option.some.inj h
   refine aq_weak (s' := ⟨[(7, .d (.val (.bool y1))), (8, .d (eL41 j38.1)), (10, .d (eL41 j38.2))], [], []⟩) id hb0 (.keep rfl (.keep rfl (.keep rfl .nil))) .nil rfl (by rfl) ?_
   exact jq
  rcases o53 with j53 | j53
  ·replace h := elim_l h
   refine aq_block_exit ?_
   refine aq_then ?_
   refine aw_seq ?_
   obtain ⟨o60, ho61, h⟩ := bind_some h
   refine aw_join (.normal) ⟨[(6, .d (.val (.bool o60)))], [], []⟩ ?_ ?_
   ·replace h := ho61
    refine aw_r ?_
    refine .m rfl ?_
    refine .m rfl ?_
    rcases Bool.eq_false_or_eq_true y1 with hc55 | hc55
    ·replace h := ite_t hc55 h
     refine .gv (f_move (by rfl)) rfl rfl rfl hc55 (.c rfl .nil) .nil ?_
     obtain ⟨y56, hy57, h⟩ := bind_some h
     refine .gv (f_callP hgl (by rfl) en30 rfl (by rfl) (by rfl) (by rfl) (F30_pool_Count_ok hy57)) rfl rfl rfl hc55 (.c rfl .nil) .nil ?_
     refine .gv (f_move (by rfl)) rfl rfl rfl hc55 (.c rfl .nil) .nil ?_
     obtain ⟨y58, hy59, h⟩ := bind_some h
     refine .gv (f_callP hgl (by rfl) en30 rfl (by rfl) (by rfl) (by rfl) (F30_pool_Count_ok hy59)) rfl rfl rfl hc55 (.c rfl .nil) .nil ?_
     refine .gv (f_binI (by rfl) rfl (by rfl)) rfl rfl rfl hc55 (.c rfl (.c rfl .nil)) .nil ?_
     refine .v (f_pick_true (by rfl) hc55) rfl (.c rfl (.c rfl .nil)) .nil ?_
     refine .a rfl ?_
     refine .nil ?_
     obtain rfl := Option.some.inj h
     refine aq_weak (s' := ⟨[(6, .d (.val (.bool (y56 == y58))))], [], []⟩) id hb0 (.keep rfl .nil) .nil rfl (by rfl) ?_
     exact jq
    replace h := ite_f hc55 h
    refine .off rfl rfl rfl hc55 rfl (by rfl) ?_
    refine .off rfl rfl rfl hc55 rfl (by rfl) ?_
    refine .off rfl rfl rfl hc55 rfl (by rfl) ?_
    refine .off rfl rfl rfl hc55 rfl (by rfl) ?_
    refine .off rfl rfl rfl hc55 rfl (by rfl) ?_
    refine .v (f_pick_false (by rfl) hc55) rfl (.c rfl (.c rfl .nil)) .nil ?_
    refine .a rfl ?_
    refine .nil ?_
    obtain rfl := Option.some.inj h
    refine aq_weak (s' := ⟨[(6, .d (.val (.bool false)))], [], []⟩) id hb0 (.keep rfl .nil) .nil rfl (by rfl) ?_
    exact jq
   refine aq_then ?_
   refine aw_ret ?_
   obtain rfl := Option.some.inj h
   exact aq_finp hb0 rfl (.tmp rfl (by rfl) .nil) (by rfl) rfl ⟨rfl, rfl⟩
  replace h := elim_r h
  refine aq_block_ret ?_
  refine aq_then_ret ?_
  obtain rfl := Option.some.inj h
  exact aq_finp hb0 rfl (.tmp rfl (by rfl) .nil) (by rfl) rfl ⟨rfl, rfl⟩
 replace h := elim_r h
 refine aq_block_ret ?_
 refine aq_then_ret ?_
 obtain rfl := Option.some.inj h
 exact aq_finp hb0 rfl (.tmp rfl (by rfl) .nil) (by rfl) rfl ⟨rfl, rfl⟩
end Go.Proofs.YtonfljoibcnlgaaDoor
