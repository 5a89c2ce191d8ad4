import Derived.Test.YtonfljoibcnlgaaGreatDoorXb1
namespace Go.Proofs.YtonfljoibcnlgaaGreatDoor
open Bd
set_option maxRecDepth 10000
def F52_shard_Submit (n : Nat) (a0 : GShard) (a1 : Int) (a2 : Int) (a3 : GTx) : Option (GShard × (List GTx) × Int) :=
  ((F30_shard_Check n a0).bind fun (y1 : Int) => (if (y1 != (0 : Int)) = true then some ((⟨[]⟩ : GShard), [], (8 : Int)) else ((F43_tx_Check n a3).bind fun (y4 : Int) => (if (y4 != (0 : Int)) = true then some ((⟨[]⟩ : GShard), [], (110 : Int)) else (if (decide (a3.Nonce < a2)) = true then some ((⟨[]⟩ : GShard), [], (200 : Int)) else (((if (decide ((IntKind.u64.wrap (a3.Nonce - a2)) ≥ (16 : Int))) = true then some true else some (a3.Nonce == (18446744073709551615 : Int)))).bind fun (o9 : Bool) => (if o9 = true then some ((⟨[]⟩ : GShard), [], (201 : Int)) else ((F32_shard_Twin n a0).bind fun (y11 : List GLine) => ((F27_tx_From n a3).bind fun (y13 : (List Int)) => ((F45_shard_part_line_4f5 n y13 y11).bind fun (y15 : GLine) => ((F44_queue_Put n y15 a3).bind fun (y17 : GLine × (List GTx) × Int) => (((if (y17.2.2 != (0 : Int)) = true then some (y17.2.2 != (9 : Int)) else some false)).bind fun (o20 : Bool) => (if o20 = true then some ((⟨[]⟩ : GShard), [], y17.2.2) else (if (y17.2.2 == (9 : Int)) = true then some ((⟨[]⟩ : GShard), [], (9 : Int)) else (((if (((y17.2.1).length : Int) == (0 : Int)) = true then ((F98_shard_Count n a0).bind fun (y24 : Int) => some (decide (y24 ≥ a1))) else some false)).bind fun (o26 : Bool) => (if o26 = true then ((F99_shard_part_worst_91b n a3 y11).bind fun (y28 : Int) => (if (decide (y28 < (0 : Int))) = true then some ((⟨[]⟩ : GShard), [], (9 : Int)) else ((rd y11 y28).bind fun (x31 : GLine) => ((rd x31.Txs (IntKind.i64.wrap (((x31.Txs).length : Int) - (1 : Int)))).bind fun (x34 : GTx) => (if 0 ≤ (0 : Int) ∧ (0 : Int) ≤ (IntKind.i64.wrap (((x31.Txs).length : Int) - (1 : Int))) ∧ (IntKind.i64.wrap (((x31.Txs).length : Int) - (1 : Int))) ≤ ((x31.Txs).length : Int) then ((F36_shard_part_set_08b n ({ x31 with Txs := ((x31.Txs).take ((IntKind.i64.wrap (((x31.Txs).length : Int) - (1 : Int)))).toNat) }) y11).bind fun (y38 : List GLine) => ((F36_shard_part_set_08b n y17.1 y38).bind fun (y40 : List GLine) => some ((⟨y40⟩ : GShard), ([x34] : List GTx), (0 : Int)))) else none))))) else ((F36_shard_part_set_08b n y17.1 y11).bind fun (y42 : List GLine) => some ((⟨y42⟩ : GShard), y17.2.1, (0 : Int)))))))))))))))))))
theorem F52_shard_Submit_ok {n : Nat} {a0 : GShard} {a1 : Int} {a2 : Int} {a3 : GTx} {r : GShard × (List GTx) × Int} (h : F52_shard_Submit n a0 a1 a2 a3 = some r) :
    ACall Tryz.prog GS 52 [.d (eGShard a0), .I a1, .U a2, .d (eGTx a3)] [] (fun r' hp' => r' = .res [.d (eGShard r.1), .d (eL28 r.2.1), .I r.2.2] ∧ hp' = []) := by
 refine acall_of_body mixed Tryz.func52 rfl (by rfl) ?_
 intro C hro hgl hb0
 unfold F52_shard_Submit at h
 refine aw_rs ?_
 refine .n (f_box 4 (by rfl) (by rfl)) rfl (.c rfl .nil) rfl ?_
 refine .n (f_box 7 (by rfl) (by rfl)) rfl (.c rfl .nil) rfl ?_
 refine .n (f_alloc 8 (by rfl) zrv24) rfl .nil rfl ?_
 refine .a rfl ?_
 refine .a rfl ?_
 refine .nil (aq_then ?_)
 refine aw_seq ?_
 refine aw_block ?_
 refine aw_rs ?_
 refine .l 4 0 [] (.d (eGShard a0)) (.d (eGShard a0)) ty24 ?_
 obtain ⟨y1, hy2, h⟩ := bind_some h
 refine .v1 (f_callP hgl (by rfl) en30 rfl (by rfl) (by rfl) (by rfl) (F30_shard_Check_ok hy2)) rfl rfl ?_
 refine .b rfl rfl rfl ?_
 refine .a rfl ?_
 refine .nil (aq_then ?_)
 refine aw_cond rfl (fun hc3 => ?_) (fun hc3 => ?_)
 ·replace h := ite_t hc3 h
  refine aw_rs ?_
  refine .l 8 0 [] (.st [.N]) (.st [.N]) ty24 ?_
  refine .s (f_store (n := 0) (o := 8) (off := 0) (p := []) (c := .st [.N]) (old := .st [.N]) (z := .st [.N]) (c' := .st [.N]) rfl rfl (by rfl) ty24 (by rfl)) rfl (.c rfl (.c rfl .nil)) (.cons rfl .nil) ?_
  refine .a rfl ?_
  refine .a rfl ?_
  refine .nil (aq_then ?_)
  refine aw_ret ?_
  refine aq_block_ret ?_
  refine aq_then_ret ?_
  obtain rfl := Option.some.inj h
  refine aq_freezeH [] [(8, .ptr 8 0 []), (9, .d (eL28 ([]))), (10, .I (8 : Int))] [(8, .av (.d (eGShard (⟨[]⟩ : GShard))))] .nil (.keep rfl (.cons rfl .nil (.keep rfl .nil))) (.cons rfl (by rfl) (.st (.cons .nil .nil)) .nil) ?_
  exact aq_finp hb0 rfl (.cell rfl rfl ty24 (by rfl) (.tmp rfl (by rfl) (.tmp rfl (by rfl) .nil))) (by rfl) rfl ⟨rfl, rfl⟩
 replace h := ite_f hc3 h
 refine aw_rs ?_
 refine .l 7 0 [] (.d (eGTx a3)) (.d (eGTx a3)) ty50 ?_
 obtain ⟨y4, hy5, h⟩ := bind_some h
 refine .v1 (f_callP hgl (by rfl) en43 rfl (by rfl) (by rfl) (by rfl) (F43_tx_Check_ok hy5)) rfl rfl ?_
 refine .b rfl rfl rfl ?_
 refine .a rfl ?_
 refine .nil (aq_then ?_)
 refine aw_cond rfl (fun hc6 => ?_) (fun hc6 => ?_)
 ·replace h := ite_t hc6 h
  refine aw_rs ?_
  refine .l 8 0 [] (.st [.N]) (.st [.N]) ty24 ?_
  refine .s (f_store (n := 0) (o := 8) (off := 0) (p := []) (c := .st [.N]) (old := .st [.N]) (z := .st [.N]) (c' := .st [.N]) rfl rfl (by rfl) ty24 (by rfl)) rfl (.c rfl (.c rfl .nil)) (.cons rfl .nil) ?_
  refine .a rfl ?_
  refine .a rfl ?_
  refine .nil (aq_then ?_)
  refine aw_ret ?_
  refine aq_block_ret ?_
  refine aq_then_ret ?_
  obtain rfl := Option.some.inj h
  refine aq_freezeH [] [(8, .ptr 8 0 []), (9, .d (eL28 ([]))), (10, .I (110 : Int))] [(8, .av (.d (eGShard (⟨[]⟩ : GShard))))] .nil (.keep rfl (.cons rfl .nil (.keep rfl .nil))) (.cons rfl (by rfl) (.st (.cons .nil .nil)) .nil) ?_
  exact aq_finp hb0 rfl (.cell rfl rfl ty24 (by rfl) (.tmp rfl (by rfl) (.tmp rfl (by rfl) .nil))) (by rfl) rfl ⟨rfl, rfl⟩
 replace h := ite_f hc6 h
 refine aw_rs ?_
 refine .v1 (f_fieldAddr (n := 64) (by rfl) fl50_2 (by decide)) rfl rfl ?_
 refine .l 7 (0 + 64) [2] (.d (eGTx a3)) (.U a3.Nonce) ty48 ?_
 refine .m rfl ?_
 refine .b rfl rfl rfl ?_
 refine .a rfl ?_
 refine .nil (aq_then ?_)
 refine aw_cond rfl (fun hc7 => ?_) (fun hc7 => ?_)
 ·replace h := ite_t hc7 h
  refine aw_rs ?_
  refine .l 8 0 [] (.st [.N]) (.st [.N]) ty24 ?_
  refine .s (f_store (n := 0) (o := 8) (off := 0) (p := []) (c := .st [.N]) (old := .st [.N]) (z := .st [.N]) (c' := .st [.N]) rfl rfl (by rfl) ty24 (by rfl)) rfl (.c rfl (.c rfl .nil)) (.cons rfl .nil) ?_
  refine .a rfl ?_
  refine .a rfl ?_
  refine .nil (aq_then ?_)
  refine aw_ret ?_
  refine aq_block_ret ?_
  refine aq_then_ret ?_
  obtain rfl := Option.some.inj h
  refine aq_freezeH [] [(8, .ptr 8 0 []), (9, .d (eL28 ([]))), (10, .I (200 : Int))] [(8, .av (.d (eGShard (⟨[]⟩ : GShard))))] .nil (.keep rfl (.cons rfl .nil (.keep rfl .nil))) (.cons rfl (by rfl) (.st (.cons .nil .nil)) .nil) ?_
  exact aq_finp hb0 rfl (.cell rfl rfl ty24 (by rfl) (.tmp rfl (by rfl) (.tmp rfl (by rfl) .nil))) (by rfl) rfl ⟨rfl, rfl⟩
 replace h := ite_f hc7 h
 refine aw_seq ?_
 obtain ⟨o9, ho46, h⟩ := bind_some h
 refine aw_join (.normal) ⟨[(1, .I a1), (4, .ptr 4 0 []), (7, .ptr 7 0 []), (8, .ptr 8 0 []), (33, .B o9)], [(4, .av (.d (eGShard a0))), (7, .av (.d (eGTx a3))), (8, .av (.st [.N]))], []⟩ ?_ ?_
 ·replace h := ho46
  refine aw_r ?_
  refine .v1 (f_fieldAddr (n := 64) (by rfl) fl50_2 (by decide)) rfl rfl ?_
  refine .l 7 (0 + 64) [2] (.d (eGTx a3)) (.U a3.Nonce) ty48 ?_
  refine .m rfl ?_
  refine .b rfl rfl rfl ?_
  refine .b rfl rfl rfl ?_
  refine .m rfl ?_
  rcases Bool.eq_false_or_eq_true (decide ((IntKind.u64.wrap (a3.Nonce - a2)) ≥ (16 : Int))) with hc8 | hc8
  ·replace h := ite_t hc8 h
   refine .q rfl rfl rfl hc8 rfl ?_
   refine .q rfl rfl rfl hc8 rfl ?_
   refine .q rfl rfl rfl hc8 rfl ?_
   refine .v2 (f_pick_true (by rfl) hc8) rfl rfl rfl ?_
   refine .a rfl ?_
   refine .nil ?_
   obtain rfl := Option.some.inj h
   refine aq_k hb0 (.k 1 rfl (.k 4 rfl (.k 7 rfl (.k 8 rfl (.k 33 rfl .nil))))) (.k 4 rfl (.k 7 rfl (.k 8 rfl .nil))) ?_
   exact jq
  replace h := ite_f hc8 h
  refine .g1 (f_fieldAddr (n := 64) (by rfl) fl50_2 (by decide)) rfl rfl rfl hc8 rfl ?_
  refine .gv (f_load (n := 0) (o := 7) (off := (0 + 64)) (p := [2]) (c := .d (eGTx a3)) (z := .U a3.Nonce) (by rfl) rfl ty48 (by rfl)) rfl rfl rfl hc8 (.c rfl .nil) (.cons rfl .nil) ?_
  refine .g2 (f_binI (by rfl) rfl (by rfl)) rfl rfl rfl hc8 rfl rfl ?_
  refine .v2 (f_pick_false (by rfl) hc8) rfl rfl rfl ?_
  refine .a rfl ?_
  refine .nil ?_
  obtain rfl := Option.some.inj h
  refine aq_k hb0 (.k 1 rfl (.k 4 rfl (.k 7 rfl (.k 8 rfl (.k 33 rfl .nil))))) (.k 4 rfl (.k 7 rfl (.k 8 rfl .nil))) ?_
  exact jq
 refine aq_then ?_
 refine aw_cond rfl (fun hc10 => ?_) (fun hc10 => ?_)
 ·replace h := ite_t hc10 h
  refine aw_rs ?_
  refine .l 8 0 [] (.st [.N]) (.st [.N]) ty24 ?_
  refine .s (f_store (n := 0) (o := 8) (off := 0) (p := []) (c := .st [.N]) (old := .st [.N]) (z := .st [.N]) (c' := .st [.N]) rfl rfl (by rfl) ty24 (by rfl)) rfl (.c rfl (.c rfl .nil)) (.cons rfl .nil) ?_
  refine .a rfl ?_
  refine .a rfl ?_
  refine .nil (aq_then ?_)
  refine aw_ret ?_
  refine aq_block_ret ?_
  refine aq_then_ret ?_
  obtain rfl := Option.some.inj h
  refine aq_freezeH [] [(8, .ptr 8 0 []), (9, .d (eL28 ([]))), (10, .I (201 : Int))] [(8, .av (.d (eGShard (⟨[]⟩ : GShard))))] .nil (.keep rfl (.cons rfl .nil (.keep rfl .nil))) (.cons rfl (by rfl) (.st (.cons .nil .nil)) .nil) ?_
  exact aq_finp hb0 rfl (.cell rfl rfl ty24 (by rfl) (.tmp rfl (by rfl) (.tmp rfl (by rfl) .nil))) (by rfl) rfl ⟨rfl, rfl⟩
 replace h := ite_f hc10 h
 refine aw_skip ?_
 refine aq_block ?_
 refine aq_then ?_
 refine aw_rs ?_
 refine .l 4 0 [] (.d (eGShard a0)) (.d (eGShard a0)) ty24 ?_
 obtain ⟨y11, hy12, h⟩ := bind_some h
 refine .w (f_callG (xs := [.d (eGShard a0)]) (r := .st [.slc 1093 0 ((y11).length) 33]) (hw := [(1092, .av (.st [.slc 1093 0 ((y11).length) 33])), (1093, .av (.d (.arr 33 ((y11).length) ((y11).map eGLine))))]) (fun i => bif Nat.beq i 1076 then 1093 else (bif Nat.beq i 2 then 1092 else i)) [] hgl (by rfl) (cal_f en32) rfl (by rfl) (by rfl) (by rfl) (by rfl) (.cons (.same _) .nil) rfl rfl rfl rfl (F32_shard_Twin_ok hy12)) rfl (.c rfl .nil) .nil (.cons rfl (.cons rfl .nil)) ?_
 refine .v1 (f_build (xs := [(0, .st [.slc 1093 0 ((y11).length) 33])]) (z' := .st [.st [.slc 1093 0 ((y11).length) 33]]) (by rfl) zrv78 ag78 rfl (by rfl) ⟨_, _, _, rfl, pl78_0, rfl, rfl, trivial⟩ (by rfl) (by rfl)) rfl rfl ?_
 refine .n (f_box 48 (by rfl) (by rfl)) rfl (.c rfl .nil) rfl ?_
 refine .a rfl ?_
 refine .nil (aq_then ?_)
 refine aw_rds ?_
 refine .v1 (f_move (by rfl)) rfl rfl ?_
 refine .v (f_load (n := 0) (o := 7) (off := 0) (p := []) (c := .d (eGTx a3)) (z := .d (eGTx a3)) (by rfl) rfl ty50 (by rfl)) rfl (.c rfl .nil) (.cons rfl .nil) ?_
 obtain ⟨y13, hy14, h⟩ := bind_some h
 refine .v1 (f_callP hgl (by rfl) en27 rfl (by rfl) (by rfl) (by rfl) (F27_tx_From_ok hy14)) rfl rfl ?_
 obtain ⟨y15, hy16, h⟩ := bind_some h
 refine .w (f_callG (xs := [.ptr 48 0 [], .d (eA46 y13)]) (r := .d (eGLine y15)) (hw := [(1094, .av (.d (eGLine y15))), (48, .av (.st [.st [.slc 1093 0 ((y11).length) 33]])), (1093, .av (.d (.arr 33 ((y11).length) ((y11).map eGLine))))]) (fun i => bif Nat.beq i 4 then 1094 else (bif Nat.beq i 1 then 1093 else (bif Nat.beq i 0 then 48 else i))) [] hgl (by rfl) (cal_f en45) rfl (by rfl) (by rfl) (by rfl) (by rfl) (.cons (.same _) (.cons (.same _) .nil)) rfl rfl rfl rfl (F45_shard_part_line_4f5_ok hy16)) rfl (.c rfl (.c rfl .nil)) (.cons rfl (.cons rfl .nil)) (.cons rfl .nil) ?_
 refine .v (f_load (n := 0) (o := 7) (off := 0) (p := []) (c := .d (eGTx a3)) (z := .d (eGTx a3)) (by rfl) rfl ty50 (by rfl)) rfl (.c rfl .nil) (.cons rfl .nil) ?_
 obtain ⟨y17, hy18, h⟩ := bind_some h
 refine .v2 (f_callP hgl (by rfl) en44 rfl (by rfl) (by rfl) (by rfl) (F44_queue_Put_ok hy18)) rfl rfl rfl ?_
 refine .v1 (f_move (by rfl)) rfl rfl ?_
 refine .v1 (f_extract (by rfl) rfl) rfl rfl ?_
 refine .v1 (f_extract (by rfl) rfl) rfl rfl ?_
 refine .v1 (f_extract (by rfl) rfl) rfl rfl ?_
 refine .n (f_alloc 12 (by rfl) zrv69) rfl .nil rfl ?_
 refine .s (f_store (n := 0) (o := 12) (off := 0) (p := []) (c := .st [.d (eA46 (List.replicate 32 (0 : Int))), .N]) (old := .st [.d (eA46 (List.replicate 32 (0 : Int))), .N]) (z := .d (eGLine y17.1)) (c' := .d (eGLine y17.1)) rfl rfl (by rfl) ty69 (by rfl)) rfl (.c rfl (.c rfl .nil)) (.cons rfl .nil) ?_
 refine .v1 (f_assign (by rfl)) rfl rfl ?_
 refine .v1 (f_assign (by rfl)) rfl rfl ?_
 refine .nil (by kernel_rfl) ?_
 refine aw_seq ?_
 refine aw_seq ?_
 obtain ⟨o20, ho45, h⟩ := bind_some h
 refine aw_join (.normal) ⟨[(1, .I a1), (4, .ptr 4 0 []), (7, .ptr 7 0 []), (8, .ptr 8 0 []), (10, .I y17.2.2), (11, .ptr 48 0 []), (12, .ptr 12 0 []), (13, .d (eL28 y17.2.1)), (64, .B o20)], [(4, .av (.d (eGShard a0))), (7, .av (.d (eGTx a3))), (8, .av (.st [.N])), (48, .av (.st [.st [.slc 1093 0 ((y11).length) 33]])), (12, .av (.d (eGLine y17.1))), (1093, .av (.d (.arr 33 ((y11).length) ((y11).map eGLine))))], []⟩ ?_ ?_
 ·replace h := ho45
  refine aw_r ?_
  refine .m rfl ?_
  refine .b rfl rfl rfl ?_
  refine .m rfl ?_
  rcases Bool.eq_false_or_eq_true (y17.2.2 != (0 : Int)) with hc19 | hc19
  ·replace h := ite_t hc19 h
   refine .g1 (f_move (by rfl)) rfl rfl rfl hc19 rfl ?_
   refine .g2 (f_binI (by rfl) rfl (by rfl)) rfl rfl rfl hc19 rfl rfl ?_
   refine .v2 (f_pick_true (by rfl) hc19) rfl rfl rfl ?_
   refine .nil ?_
   obtain rfl := Option.some.inj h
   refine aq_k hb0 (.k 1 rfl (.k 4 rfl (.k 7 rfl (.k 8 rfl (.k 10 rfl (.k 11 rfl (.k 12 rfl (.k 13 rfl (.k 64 rfl .nil))))))))) (.k 4 rfl (.k 7 rfl (.k 8 rfl (.k 48 rfl (.k 12 rfl (.k 1093 rfl .nil)))))) ?_
   exact jq
  replace h := ite_f hc19 h
  refine .q rfl rfl rfl hc19 rfl ?_
  refine .q rfl rfl rfl hc19 rfl ?_
  refine .v2 (f_pick_false (by rfl) hc19) rfl rfl rfl ?_
  refine .nil ?_
  obtain rfl := Option.some.inj h
  refine aq_k hb0 (.k 1 rfl (.k 4 rfl (.k 7 rfl (.k 8 rfl (.k 10 rfl (.k 11 rfl (.k 12 rfl (.k 13 rfl (.k 64 rfl .nil))))))))) (.k 4 rfl (.k 7 rfl (.k 8 rfl (.k 48 rfl (.k 12 rfl (.k 1093 rfl .nil)))))) ?_
  exact jq
 refine aq_then ?_
 refine aw_cond rfl (fun hc21 => ?_) (fun hc21 => ?_)
 ·replace h := ite_t hc21 h
  refine aw_rs ?_
  refine .l 8 0 [] (.st [.N]) (.st [.N]) ty24 ?_
  refine .m rfl ?_
  refine .s (f_store (n := 0) (o := 8) (off := 0) (p := []) (c := .st [.N]) (old := .st [.N]) (z := .st [.N]) (c' := .st [.N]) rfl rfl (by rfl) ty24 (by rfl)) rfl (.c rfl (.c rfl .nil)) (.cons rfl .nil) ?_
  refine .a rfl ?_
  refine .a rfl ?_
  refine .nil (aq_then ?_)
  refine aw_ret ?_
  refine aq_then_ret ?_
  obtain rfl := Option.some.inj h
  refine aq_freezeH [] [(8, .ptr 8 0 []), (10, .I y17.2.2), (9, .d (eL28 ([])))] [(8, .av (.d (eGShard (⟨[]⟩ : GShard))))] .nil (.keep rfl (.keep rfl (.cons rfl .nil .nil))) (.cons rfl (by rfl) (.st (.cons .nil .nil)) .nil) ?_
  exact aq_finp hb0 rfl (.cell rfl rfl ty24 (by rfl) (.tmp rfl (by rfl) (.tmp rfl (by rfl) .nil))) (by rfl) rfl ⟨rfl, rfl⟩
 replace h := ite_f hc21 h
 refine aw_skip ?_
 refine aq_then ?_
 refine aw_seq ?_
 refine aw_rs ?_
 refine .m rfl ?_
 refine .b rfl rfl rfl ?_
 refine .nil (aq_then ?_)
 refine aw_cond rfl (fun hc22 => ?_) (fun hc22 => ?_)
 ·replace h := ite_t hc22 h
  refine aw_rs ?_
  refine .l 8 0 [] (.st [.N]) (.st [.N]) ty24 ?_
  refine .s (f_store (n := 0) (o := 8) (off := 0) (p := []) (c := .st [.N]) (old := .st [.N]) (z := .st [.N]) (c' := .st [.N]) rfl rfl (by rfl) ty24 (by rfl)) rfl (.c rfl (.c rfl .nil)) (.cons rfl .nil) ?_
  refine .a rfl ?_
  refine .a rfl ?_
  refine .nil (aq_then ?_)
  refine aw_ret ?_
  refine aq_then_ret ?_
  obtain rfl := Option.some.inj h
  refine aq_freezeH [] [(8, .ptr 8 0 []), (10, .I (9 : Int)), (9, .d (eL28 ([])))] [(8, .av (.d (eGShard (⟨[]⟩ : GShard))))] .nil (.keep rfl (.keep rfl (.cons rfl .nil .nil))) (.cons rfl (by rfl) (.st (.cons .nil .nil)) .nil) ?_
  exact aq_finp hb0 rfl (.cell rfl rfl ty24 (by rfl) (.tmp rfl (by rfl) (.tmp rfl (by rfl) .nil))) (by rfl) rfl ⟨rfl, rfl⟩
 replace h := ite_f hc22 h
 refine aw_skip ?_
 refine aq_then ?_
 refine aw_seq ?_
 refine aw_seq ?_
 obtain ⟨o26, ho44, h⟩ := bind_some h
 refine aw_join (.normal) ⟨[(7, .ptr 7 0 []), (8, .ptr 8 0 []), (11, .ptr 48 0 []), (12, .ptr 12 0 []), (13, .d (eL28 y17.2.1)), (78, .B o26)], [(7, .av (.d (eGTx a3))), (8, .av (.st [.N])), (48, .av (.st [.st [.slc 1093 0 ((y11).length) 33]])), (12, .av (.d (eGLine y17.1))), (1093, .av (.d (.arr 33 ((y11).length) ((y11).map eGLine))))], []⟩ ?_ ?_
 ·replace h := ho44
  refine aw_r ?_
  refine .m rfl ?_
  refine .v1 (f_lenD (n := (y17.2.1).length) (by rfl) sl28 rfl (by simp)) rfl rfl ?_
  refine .b rfl rfl rfl ?_
  refine .m rfl ?_
  rcases Bool.eq_false_or_eq_true (((y17.2.1).length : Int) == (0 : Int)) with hc23 | hc23
  ·replace h := ite_t hc23 h
   refine .gv (f_load (n := 0) (o := 4) (off := 0) (p := []) (c := .d (eGShard a0)) (z := .d (eGShard a0)) (by rfl) rfl ty24 (by rfl)) rfl rfl rfl hc23 (.c rfl .nil) (.cons rfl .nil) ?_
   obtain ⟨y24, hy25, h⟩ := bind_some h
   refine .g1 (f_callP hgl (by rfl) en98 rfl (by rfl) (by rfl) (by rfl) (F98_shard_Count_ok hy25)) rfl rfl rfl hc23 rfl ?_
   refine .g1 (f_move (by rfl)) rfl rfl rfl hc23 rfl ?_
   refine .g2 (f_binI (by rfl) rfl (by rfl)) rfl rfl rfl hc23 rfl rfl ?_
   refine .v2 (f_pick_true (by rfl) hc23) rfl rfl rfl ?_
   refine .nil ?_
   obtain rfl := Option.some.inj h
   refine aq_k hb0 (.k 7 rfl (.k 8 rfl (.k 11 rfl (.k 12 rfl (.k 13 rfl (.k 78 rfl .nil)))))) (.k 7 rfl (.k 8 rfl (.k 48 rfl (.k 12 rfl (.k 1093 rfl .nil))))) ?_
   exact jq
  replace h := ite_f hc23 h
  refine .q rfl rfl rfl hc23 rfl ?_
  refine .q rfl rfl rfl hc23 rfl ?_
  refine .q rfl rfl rfl hc23 rfl ?_
  refine .q rfl rfl rfl hc23 rfl ?_
  refine .v2 (f_pick_false (by rfl) hc23) rfl rfl rfl ?_
  refine .nil ?_
  obtain rfl := Option.some.inj h
  refine aq_k hb0 (.k 7 rfl (.k 8 rfl (.k 11 rfl (.k 12 rfl (.k 13 rfl (.k 78 rfl .nil)))))) (.k 7 rfl (.k 8 rfl (.k 48 rfl (.k 12 rfl (.k 1093 rfl .nil))))) ?_
  exact jq
 refine aq_then ?_
 refine aw_cond rfl (fun hc27 => ?_) (fun hc27 => ?_)
 ·replace h := ite_t hc27 h
  refine aw_rs ?_
  refine .m rfl ?_
  refine .l 7 0 [] (.d (eGTx a3)) (.d (eGTx a3)) ty50 ?_
  obtain ⟨y28, hy29, h⟩ := bind_some h
  refine .w (f_callG0 (xs := [.ptr 48 0 [], .d (eGTx a3)]) (r := .I y28) (fun i => bif Nat.beq i 1 then 1093 else (bif Nat.beq i 0 then 48 else i)) [] hgl (by rfl) (cal_f en99) rfl (by rfl) (by rfl) (by rfl) (by rfl) (.cons (.same _) (.cons (.same _) .nil)) rfl rfl (F99_shard_part_worst_91b_ok hy29)) rfl (.c rfl (.c rfl .nil)) (.cons rfl (.cons rfl .nil)) .nil ?_
  refine .a rfl ?_
  refine .nil (aq_then ?_)
  refine aw_seq ?_
  refine aw_rs ?_
  refine .m rfl ?_
  refine .b rfl rfl rfl ?_
  refine .nil (aq_then ?_)
  refine aw_cond rfl (fun hc30 => ?_) (fun hc30 => ?_)
  ·replace h := ite_t hc30 h
   refine aw_rs ?_
   refine .l 8 0 [] (.st [.N]) (.st [.N]) ty24 ?_
   refine .s (f_store (n := 0) (o := 8) (off := 0) (p := []) (c := .st [.N]) (old := .st [.N]) (z := .st [.N]) (c' := .st [.N]) rfl rfl (by rfl) ty24 (by rfl)) rfl (.c rfl (.c rfl .nil)) (.cons rfl .nil) ?_
   refine .a rfl ?_
   refine .a rfl ?_
   refine .nil (aq_then ?_)
   refine aw_ret ?_
   refine aq_then_ret ?_
   refine aq_then_ret ?_
   obtain rfl := Option.some.inj h
   refine aq_freezeH [] [(8, .ptr 8 0 []), (9, .d (eL28 ([]))), (10, .I (9 : Int))] [(8, .av (.d (eGShard (⟨[]⟩ : GShard))))] .nil (.keep rfl (.cons rfl .nil (.keep rfl .nil))) (.cons rfl (by rfl) (.st (.cons .nil .nil)) .nil) ?_
   exact aq_finp hb0 rfl (.cell rfl rfl ty24 (by rfl) (.tmp rfl (by rfl) (.tmp rfl (by rfl) .nil))) (by rfl) rfl ⟨rfl, rfl⟩
  replace h := ite_f hc30 h
  refine aw_skip ?_
  refine aq_then ?_
  refine aw_rs ?_
  refine .m rfl ?_
  refine .v1 (f_nilCheck (by rfl)) rfl rfl ?_
  refine .v1 (f_fieldAddr (n := 0) (by rfl) fl78_0 (by decide)) rfl rfl ?_
  refine .v1 (f_fieldAddr (n := 0) (by rfl) fl24_0 (by decide)) rfl rfl ?_
  refine .l 48 ((0 + 0) + 0) [0, 0] (.st [.st [.slc 1093 0 ((y11).length) 33]]) (.slc 1093 0 ((y11).length) 33) ty22 ?_
  refine .m rfl ?_
  obtain ⟨x31, hx32, h⟩ := bind_some h
  obtain ⟨hx33, hx32⟩ := rd_some hx32
  refine .v (f_indexSW (by rfl) sl22 hx33 (rd_map _ hx32)) rfl (.c rfl (.c rfl .nil)) (.cons rfl .nil) ?_
  refine .v (f_load (n := 0) (o := 1093) (off := ((0 + (y28).toNat) * 33)) (p := [0 + (y28).toNat]) (c := .d (.arr 33 ((y11).length) ((y11).map eGLine))) (z := .d (eGLine x31)) (by rfl) (at_map _ (by simpa using hx32) rfl) ty69 (by rfl)) rfl (.c rfl .nil) (.cons rfl .nil) ?_
  refine .n (f_alloc 15 (by rfl) zrv69) rfl .nil rfl ?_
  refine .s (f_store (n := 0) (o := 15) (off := 0) (p := []) (c := .st [.d (eA46 (List.replicate 32 (0 : Int))), .N]) (old := .st [.d (eA46 (List.replicate 32 (0 : Int))), .N]) (z := .d (eGLine x31)) (c' := .d (eGLine x31)) rfl rfl (by rfl) ty69 (by rfl)) rfl (.c rfl (.c rfl .nil)) (.cons rfl .nil) ?_
  refine .z ?_
  refine .v1 (f_fieldAddr (n := 32) (by rfl) fl69_1 (by decide)) rfl rfl ?_
  refine .l 15 (0 + 32) [1] (.d (eGLine x31)) (.d (eL28 x31.Txs)) ty28 ?_
  refine .v1 (f_lenD (n := (x31.Txs).length) (by rfl) sl28 rfl (by simp)) rfl rfl ?_
  refine .b rfl rfl rfl ?_
  refine .a rfl ?_
  refine .nil (aq_then ?_)
  refine aw_rds ?_
  refine .v1 (f_fieldAddr (n := 32) (by rfl) fl69_1 (by decide)) rfl rfl ?_
  refine .v (f_load (n := 0) (o := 15) (off := (0 + 32)) (p := [1]) (c := .d (eGLine x31)) (z := .d (eL28 x31.Txs)) (by rfl) rfl ty28 (by rfl)) rfl (.c rfl .nil) (.cons rfl .nil) ?_
  refine .v1 (f_move (by rfl)) rfl rfl ?_
  obtain ⟨x34, hx35, h⟩ := bind_some h
  obtain ⟨hx36, hx35⟩ := rd_some hx35
  refine .v2 (f_indexS (by rfl) sl28 hx36 (rd_map _ hx35)) rfl rfl rfl ?_
  refine .v1 (f_loadR (z := (eGTx x34)) (by rfl) ty50) rfl rfl ?_
  refine .n (f_buildS (xs := [(0, .d (eGTx x34))]) (z := (.st [(eA46 (List.replicate 32 (0 : Int))), (eA46 (List.replicate 32 (0 : Int))), (.val (.int .u64 (0 : Int))), (.val (.int .u64 (0 : Int))), (.val (.int .u64 (0 : Int))), (eA46 (List.replicate 32 (0 : Int)))])) (zs := (([x34] : List GTx)).map eGTx) 1101 (by rfl) el28 zel28 (by rfl) (by decide) (by decide) rfl (by rfl) ⟨_, _, _, rfl, pl28_0, rfl, rfl, trivial⟩ (by rfl)) rfl (.c rfl .nil) rfl ?_
  refine .v1 (f_fieldAddr (n := 32) (by rfl) fl69_1 (by decide)) rfl rfl ?_
  refine .v (f_load (n := 0) (o := 15) (off := (0 + 32)) (p := [1]) (c := .d (eGLine x31)) (z := .d (eL28 x31.Txs)) (by rfl) rfl ty28 (by rfl)) rfl (.c rfl .nil) (.cons rfl .nil) ?_
  refine .v1 (f_move (by rfl)) rfl rfl ?_
  refine .v1 (f_move (by rfl)) rfl rfl ?_
  obtain ⟨hb37, h⟩ := ifp h
  refine .v (f_sliceDM (k1 := .i64) (k2 := .i64) (k3 := .i64) (i := (0 : Int)) (j := (IntKind.i64.wrap (((x31.Txs).length : Int) - (1 : Int)))) (xs := (x31.Txs).map eGTx) (zs := ((x31.Txs).take ((IntKind.i64.wrap (((x31.Txs).length : Int) - (1 : Int)))).toNat).map eGTx) (by rfl) sl28 (by intro hx; first | rfl | cases hx) hb37.1 hb37.2.1 (by rw [List.length_map]; exact hb37.2.2) (by simp [List.map_take, List.map_drop])) rfl (.c rfl (.c rfl (.c rfl .nil))) .nil ?_
  refine .v1 (f_assign (by rfl)) rfl rfl ?_
  refine .v1 (f_fieldAddr (n := 32) (by rfl) fl69_1 (by decide)) rfl rfl ?_
  refine .s (f_store (n := 0) (o := 15) (off := (0 + 32)) (p := [1]) (c := .d (eGLine x31)) (old := .d (eL28 x31.Txs)) (z := .d (eL28 ((x31.Txs).take ((IntKind.i64.wrap (((x31.Txs).length : Int) - (1 : Int)))).toNat))) (c' := .d (eGLine ({ x31 with Txs := ((x31.Txs).take ((IntKind.i64.wrap (((x31.Txs).length : Int) - (1 : Int)))).toNat) }))) rfl rfl (by rfl) ty28 (by rfl)) rfl (.c rfl (.c rfl .nil)) (.cons rfl .nil) ?_
  refine .nil (by kernel_rfl) ?_
  refine aw_r ?_
  refine .m rfl ?_
  refine .l 15 0 [] (.d (eGLine ({ x31 with Txs := ((x31.Txs).take ((IntKind.i64.wrap (((x31.Txs).length : Int) - (1 : Int)))).toNat) }))) (.d (eGLine ({ x31 with Txs := ((x31.Txs).take ((IntKind.i64.wrap (((x31.Txs).length : Int) - (1 : Int)))).toNat) }))) ty69 ?_
  obtain ⟨y38, hy39, h⟩ := bind_some h
  refine .w (f_callG (xs := [.ptr 48 0 [], .d (eGLine ({ x31 with Txs := ((x31.Txs).take ((IntKind.i64.wrap (((x31.Txs).length : Int) - (1 : Int)))).toNat) }))]) (r := .res []) (hw := [(48, .av (.st [.st [.slc 1107 0 ((y38).length) 33]])), (1093, .dead), (1107, .av (.d (.arr 33 ((y38).length) ((y38).map eGLine))))]) (fun i => bif Nat.beq i 1102 then 1107 else (bif Nat.beq i 1 then 1093 else (bif Nat.beq i 0 then 48 else i))) [] hgl (by rfl) (cal_f en36) rfl (by rfl) (by rfl) (by rfl) (by rfl) (.cons (.same _) (.cons (.same _) .nil)) rfl rfl rfl rfl (F36_shard_part_set_08b_ok hy39)) rfl (.c rfl (.c rfl .nil)) (.cons rfl (.cons rfl .nil)) (.cons rfl .nil) ?_
  refine .nil ?_
  refine aq_then ?_
  refine aw_rs ?_
  refine .m rfl ?_
  refine .l 12 0 [] (.d (eGLine y17.1)) (.d (eGLine y17.1)) ty69 ?_
  obtain ⟨y40, hy41, h⟩ := bind_some h
  refine .w (f_callG (xs := [.ptr 48 0 [], .d (eGLine y17.1)]) (r := .res []) (hw := [(48, .av (.st [.st [.slc 1108 0 ((y40).length) 33]])), (1107, .dead), (1108, .av (.d (.arr 33 ((y40).length) ((y40).map eGLine))))]) (fun i => bif Nat.beq i 1102 then 1108 else (bif Nat.beq i 1 then 1107 else (bif Nat.beq i 0 then 48 else i))) [] hgl (by rfl) (cal_f en36) rfl (by rfl) (by rfl) (by rfl) (by rfl) (.cons (.same _) (.cons (.same _) .nil)) rfl rfl rfl rfl (F36_shard_part_set_08b_ok hy41)) rfl (.c rfl (.c rfl .nil)) (.cons rfl (.cons rfl .nil)) (.cons rfl .nil) ?_
  refine .z ?_
  refine .m rfl ?_
  refine .v1 (f_nilCheck (by rfl)) rfl rfl ?_
  refine .v1 (f_fieldAddr (n := 0) (by rfl) fl78_0 (by decide)) rfl rfl ?_
  refine .l 48 (0 + 0) [0] (.st [.st [.slc 1108 0 ((y40).length) 33]]) (.st [.slc 1108 0 ((y40).length) 33]) ty24 ?_
  refine .m rfl ?_
  refine .s (f_store (n := 0) (o := 8) (off := 0) (p := []) (c := .st [.N]) (old := .st [.N]) (z := .st [.slc 1108 0 ((y40).length) 33]) (c' := .st [.slc 1108 0 ((y40).length) 33]) rfl rfl (by rfl) ty24 (by rfl)) rfl (.c rfl (.c rfl .nil)) (.cons rfl .nil) ?_
  refine .a rfl ?_
  refine .a rfl ?_
  refine .nil (aq_then ?_)
  refine aw_ret ?_
  obtain rfl := Option.some.inj h
  refine aq_freezeH [(1101, (.arr 99 ((([x34] : List GTx)).length) ((([x34] : List GTx)).map eGTx))), (1108, (.arr 33 ((y40).length) ((y40).map eGLine)))] [(8, .ptr 8 0 []), (9, .d (eL28 ([x34] : List GTx))), (10, .I (0 : Int))] [(8, .av (.d (eGShard (⟨y40⟩ : GShard)))), (48, .av (.d (eGshard_part (⟨(⟨y40⟩ : GShard)⟩ : Gshard_part))))] (.cons rfl (.cons rfl .nil)) (.keep rfl (.cons rfl (.whole (.head _)) (.keep rfl .nil))) (.cons rfl (by rfl) (.st (.cons (.whole (.tail _ (.head _))) .nil)) (.cons rfl (by rfl) (.st (.cons (.st (.cons (.whole (.tail _ (.head _))) .nil)) .nil)) .nil)) ?_
  exact aq_finp hb0 rfl (.cell rfl rfl ty24 (by rfl) (.tmp rfl (by rfl) (.tmp rfl (by rfl) .nil))) (by rfl) rfl ⟨rfl, rfl⟩
 replace h := ite_f hc27 h
 refine aw_skip ?_
 refine aq_then ?_
 refine aw_rs ?_
 refine .m rfl ?_
 refine .l 12 0 [] (.d (eGLine y17.1)) (.d (eGLine y17.1)) ty69 ?_
 obtain ⟨y42, hy43, h⟩ := bind_some h
 refine .w (f_callG (xs := [.ptr 48 0 [], .d (eGLine y17.1)]) (r := .res []) (hw := [(48, .av (.st [.st [.slc 1109 0 ((y42).length) 33]])), (1093, .dead), (1109, .av (.d (.arr 33 ((y42).length) ((y42).map eGLine))))]) (fun i => bif Nat.beq i 1102 then 1109 else (bif Nat.beq i 1 then 1093 else (bif Nat.beq i 0 then 48 else i))) [] hgl (by rfl) (cal_f en36) rfl (by rfl) (by rfl) (by rfl) (by rfl) (.cons (.same _) (.cons (.same _) .nil)) rfl rfl rfl rfl (F36_shard_part_set_08b_ok hy43)) rfl (.c rfl (.c rfl .nil)) (.cons rfl (.cons rfl .nil)) (.cons rfl .nil) ?_
 refine .z ?_
 refine .m rfl ?_
 refine .v1 (f_nilCheck (by rfl)) rfl rfl ?_
 refine .v1 (f_fieldAddr (n := 0) (by rfl) fl78_0 (by decide)) rfl rfl ?_
 refine .l 48 (0 + 0) [0] (.st [.st [.slc 1109 0 ((y42).length) 33]]) (.st [.slc 1109 0 ((y42).length) 33]) ty24 ?_
 refine .m rfl ?_
 refine .s (f_store (n := 0) (o := 8) (off := 0) (p := []) (c := .st [.N]) (old := .st [.N]) (z := .st [.slc 1109 0 ((y42).length) 33]) (c' := .st [.slc 1109 0 ((y42).length) 33]) rfl rfl (by rfl) ty24 (by rfl)) rfl (.c rfl (.c rfl .nil)) (.cons rfl .nil) ?_
 refine .a rfl ?_
 refine .a rfl ?_
 refine .nil (aq_then ?_)
 refine aw_ret ?_
 obtain rfl := Option.some.inj h
 refine aq_freezeH [(1109, (.arr 33 ((y42).length) ((y42).map eGLine)))] [(8, .ptr 8 0 []), (9, .d (eL28 y17.2.1)), (10, .I (0 : Int))] [(8, .av (.d (eGShard (⟨y42⟩ : GShard)))), (48, .av (.d (eGshard_part (⟨(⟨y42⟩ : GShard)⟩ : Gshard_part))))] (.cons rfl .nil) (.keep rfl (.keep rfl (.keep rfl .nil))) (.cons rfl (by rfl) (.st (.cons (.whole (.head _)) .nil)) (.cons rfl (by rfl) (.st (.cons (.st (.cons (.whole (.head _)) .nil)) .nil)) .nil)) ?_
 exact aq_finp hb0 rfl (.cell rfl rfl ty24 (by rfl) (.tmp rfl (by rfl) (.tmp rfl (by rfl) .nil))) (by rfl) rfl ⟨rfl, rfl⟩
def F31_acct_Check_s0 (n : Nat) (y4 : (List GPair) × Int) (z0_0 : Int) : Option ((Int) ⊕ ((Unit) ⊕ (Unit))) :=
  (if (decide (z0_0 < ((y4.1).length : Int))) = true then ((rd y4.1 z0_0).bind fun (x9 : GPair) => ((F71_acct_Read n x9.Value).bind fun (y12 : GAccount × Int) => (if (!(y12.2 == (0 : Int))) = true then some (.inr (.inr ())) else some (.inl (IntKind.i64.wrap (z0_0 + (1 : Int))))))) else some (.inr (.inl ())))
def F31_acct_Check (n : Nat) (a0 : GTree) : Option (Int) :=
  ((F67_acct_each n a0).bind fun (y1 : GTree) => ((F109_tree_Pairs n y1).bind fun (y4 : (List GPair) × Int) => (if (y4.2 != (0 : Int)) = true then some (8 : Int) else ((loopF (fun (z : Int) => F31_acct_Check_s0 n y4 z) n (0 : Int)).bind (Sum.elim (fun (j16 : Unit) => some (0 : Int)) (fun (j16 : Unit) => some (8 : Int)))))))
theorem F31_acct_Check_ok {n : Nat} {a0 : GTree} {r : Int} (h : F31_acct_Check n a0 = some r) :
    ACall Tryz.prog GS 31 [.d (eGTree a0)] [] (fun r' hp' => r' = .I r ∧ hp' = []) := by
 refine acall_of_body mixed Tryz.func31 rfl (by rfl) ?_
 intro C hro hgl hb0
 unfold F31_acct_Check at h
 refine aw_rs ?_
 refine .n (f_box 1 (by rfl) (by rfl)) rfl (.c rfl .nil) rfl ?_
 refine .n (f_alloc 2 (by rfl) zr32) rfl .nil rfl ?_
 refine .nil (aq_then ?_)
 refine aw_seq ?_
 refine aw_rs ?_
 refine .l 1 0 [] (.d (eGTree a0)) (.d (eGTree a0)) ty27 ?_
 obtain ⟨y1, hy2, h⟩ := bind_some h
 refine .w (f_callG (xs := [.d (eGTree a0)]) (r := .fn (.func 108) [] [.ptr 1110 0 []]) (hw := [(1110, .av (.d (eGTree y1)))]) (fun i => bif Nat.beq i 1 then 1110 else i) [] hgl (by rfl) (cal_f en67) rfl (by rfl) (by rfl) (by rfl) (by rfl) (.cons (.same _) .nil) rfl rfl rfl rfl (F67_acct_each_ok hy2)) rfl (.c rfl .nil) .nil (.cons rfl .nil) ?_
 refine .nil (aq_then ?_)
 refine aw_block ?_
 refine aw_range 1112 1111 hro rfl Tryz.func108 rfl rfl en108 rfl rfl rfl (by rfl) ?_
 intro C3 lp3 E3 hro3 hg3 hb3 hst3 hpd3 hps3 has3 hbd3 hpin3 hend3
 refine aw_rs ?_
 refine .l 1110 0 [] (.d (eGTree y1)) (.d (eGTree y1)) ty27 ?_
 obtain ⟨y4, hy5, h⟩ := bind_some h
 refine .v1 (f_callP (hg3.trans hgl) (by rfl) en109 rfl (by rfl) (by rfl) (by rfl) (F109_tree_Pairs_ok hy5)) rfl rfl ?_
 refine .m rfl ?_
 refine .v1 (f_extract (by rfl) rfl) rfl rfl ?_
 refine .v1 (f_extract (by rfl) rfl) rfl rfl ?_
 refine .a rfl ?_
 refine .a rfl ?_
 refine .nil (aq_then ?_)
 refine aw_seq ?_
 refine aw_rs ?_
 refine .m rfl ?_
 refine .b rfl rfl rfl ?_
 refine .nil (aq_then ?_)
 refine aw_cond rfl (fun hc6 => ?_) (fun hc6 => ?_)
 ·replace h := ite_t hc6 h
  refine aw_rs ?_
  refine .m rfl ?_
  refine .v (f_build (xs := []) (z' := .d (eGAccount (⟨(0 : Int), (0 : Int)⟩ : GAccount))) (by rfl) zr80 ag80 rfl (by rfl) trivial (by rfl) (by rfl)) rfl .nil .nil ?_
  refine R.yield (L := 1111) (r := lp3) (ns2 := Tryz.f31.ntmps) (xs := [.d (eGAccount (⟨(0 : Int), (0 : Int)⟩ : GAccount)), .B false]) (wanted_plain rfl) (by rfl) rfl rfl hst3 (by rw [hps3]; rfl) rfl (by rfl) (.c rfl (.c rfl .nil)) hpin3 (by rw [hps3]; rfl) ?_
  intro C7 Y7 A7 hr7 hh7 hk7 hp7 he7 hn7
  refine aw_code has3 ?_
  rw [hps3]
  refine aw_r ?_
  refine .a rfl ?_
  refine .nil ?_
  refine hn7 _ rfl ?_
  refine aw_code hbd3 ?_
  refine aw_block ?_
  refine aw_rs ?_
  refine .m rfl ?_
  refine .v1 (f_not (by rfl)) rfl rfl ?_
  refine .nil (aq_then ?_)
  refine aw_cond rfl (fun _ => ?_) (fun hx => absurd (hx.symm.trans (not_t rfl)) (by simp))
  refine aw_rs ?_
  refine .s (f_store (n := 0) (o := 2) (off := 0) (p := []) (c := .I (0 : Int)) (old := .I (0 : Int)) (z := .I (8 : Int)) (c' := .I (8 : Int)) rfl rfl (by rfl) ty32 (by rfl)) rfl (.c rfl (.c rfl .nil)) (.cons rfl .nil) ?_
  refine .nil (aq_then ?_)
  refine aw_ret ?_
  refine aq_block_ret ?_
  refine he7 .ret (some .ret) _ rfl rfl rfl ?_
  refine .nil (aq_then ?_)
  refine aw_ret ?_
  refine aq_then_ret ?_
  refine hend3 .ret _ .done (some .ret) (.inl rfl) rfl rfl (by simp) ?_
  show AW _ .ret _ _
  refine aw_ret ?_
  refine aq_block_ret ?_
  refine aq_then_ret ?_
  obtain rfl := Option.some.inj h
  refine aq_marks (.inl rfl) ⟨rfl, trivial⟩ ?_
  exact aq_finp hb0 rfl (.cell rfl rfl ty32 (by rfl) .nil) (by rfl) rfl ⟨rfl, rfl⟩
 replace h := ite_f hc6 h
 refine aw_skip ?_
 refine aq_then ?_
 refine aw_rs ?_
 refine .m rfl ?_
 refine .v1 (f_lenD (n := (y4.1).length) (by rfl) sl91 rfl (by simp)) rfl rfl ?_
 refine .m rfl ?_
 refine .nil (aq_then ?_)
 refine aw_block ?_
 refine aw_k hb3 (.k 0 rfl (.k 19 rfl (.k 20 rfl (.k 21 rfl .nil)))) (.k 1111 rfl (.k 1 rfl (.k 2 rfl (.k 1110 rfl (.k 1112 rfl .nil))))) ?_
 obtain ⟨o16, ho17, h⟩ := bind_some h
 refine aw_loopX (σ := Int) (fun z => ⟨[(0, .yld 1111), (19, .d (eL91 y4.1)), (20, .I ((y4.1).length : Int)), (21, .I z)], [(1111, .raw (.loop lp3)), (1, .av (.d (eGTree a0))), (2, .av (.I (0 : Int))), (1110, .av (.d (eGTree y1))), (1112, .raw (.deferred (some [])))], []⟩) (Sum.elim (fun _ => .exit 0) (fun _ => .ret)) (Sum.elim (fun j16 => ⟨[], [(1, .av (.d (eGTree a0))), (2, .av (.I (0 : Int))), (1110, .av (.d (eGTree y1))), (1111, .raw (.loop lp3)), (1112, .raw (.deferred (some [])))], []⟩) (fun j16 => ⟨[], [(1, .av (.d (eGTree a0))), (2, .av (.I (8 : Int))), (1110, .av (.d (eGTree y1))), (1111, .raw (.loop { lp3 with state := .done, pending := some .ret })), (1112, .raw (.deferred (some [])))], []⟩)) ho17 (by intro b; rcases b with _ | _ <;> rfl) ?_ ?_
 ·clear h ho17
  intro z0_0 o h
  change F31_acct_Check_s0 n y4 z0_0 = some o at h
  unfold F31_acct_Check_s0 at h
  show AW _ _ _ ⟨[(0, .yld 1111), (19, .d (eL91 y4.1)), (20, .I ((y4.1).length : Int)), (21, .I z0_0)], [(1111, .raw (.loop lp3)), (1, .av (.d (eGTree a0))), (2, .av (.I (0 : Int))), (1110, .av (.d (eGTree y1))), (1112, .raw (.deferred (some [])))], []⟩
  refine aw_rs ?_
  refine .b rfl rfl rfl ?_
  refine .nil (aq_then ?_)
  refine aw_seq ?_
  refine aw_cond rfl (fun hc8 => ?_) (fun hc8 => ?_)
  ·replace h := ite_t hc8 h
   refine aw_skip ?_
   refine aq_then ?_
   refine aw_seq ?_
   refine aw_block ?_
   refine aw_rs ?_
   obtain ⟨x9, hx10, h⟩ := bind_some h
   obtain ⟨hx11, hx10⟩ := rd_some hx10
   refine .v2 (f_indexS (by rfl) sl91 hx11 (rd_map _ hx10)) rfl rfl rfl ?_
   refine .v1 (f_loadR (z := (eGPair x9)) (by rfl) ty170) rfl rfl ?_
   refine .n (f_alloc 6 (by rfl) zrv170) rfl .nil rfl ?_
   refine .s (f_store (n := 0) (o := 6) (off := 0) (p := []) (c := .st [.d (eA46 (List.replicate 32 (0 : Int))), .N]) (old := .st [.d (eA46 (List.replicate 32 (0 : Int))), .N]) (z := .d (eGPair x9)) (c' := .d (eGPair x9)) rfl rfl (by rfl) ty170 (by rfl)) rfl (.c rfl (.c rfl .nil)) (.cons rfl .nil) ?_
   refine .z ?_
   refine .v1 (f_fieldAddr (n := 32) (by rfl) fl170_1 (by decide)) rfl rfl ?_
   refine .l 6 (0 + 32) [1] (.d (eGPair x9)) (.d (eL70 x9.Value)) ty70 ?_
   obtain ⟨y12, hy13, h⟩ := bind_some h
   refine .v1 (f_callP (hg3.trans hgl) (by rfl) en71 rfl (by rfl) (by rfl) (by rfl) (F71_acct_Read_ok hy13)) rfl rfl ?_
   refine .m rfl ?_
   refine .v1 (f_extract (by rfl) rfl) rfl rfl ?_
   refine .v1 (f_extract (by rfl) rfl) rfl rfl ?_
   refine .n (f_alloc 7 (by rfl) zr80) rfl .nil rfl ?_
   refine .s (f_store (n := 0) (o := 7) (off := 0) (p := []) (c := .d (eGAccount (⟨(0 : Int), (0 : Int)⟩ : GAccount))) (old := .d (eGAccount (⟨(0 : Int), (0 : Int)⟩ : GAccount))) (z := .d (eGAccount y12.1)) (c' := .d (eGAccount y12.1)) rfl rfl (by rfl) ty80 (by rfl)) rfl (.c rfl (.c rfl .nil)) (.cons rfl .nil) ?_
   refine .a rfl ?_
   refine .z ?_
   refine .m rfl ?_
   refine .l 7 0 [] (.d (eGAccount y12.1)) (.d (eGAccount y12.1)) ty80 ?_
   refine .m rfl ?_
   refine .b rfl rfl rfl ?_
   refine R.yield (L := 1111) (r := lp3) (ns2 := Tryz.f31.ntmps) (xs := [.d (eGAccount y12.1), .B (y12.2 == (0 : Int))]) (wanted_plain rfl) (by rfl) rfl rfl hst3 (by rw [hps3]; rfl) rfl (by rfl) (.c rfl (.c rfl .nil)) hpin3 (by rw [hps3]; rfl) ?_
   intro C14 Y14 A14 hr14 hh14 hk14 hp14 he14 hn14
   refine aw_code has3 ?_
   rw [hps3]
   refine aw_r ?_
   refine .a rfl ?_
   refine .nil ?_
   refine hn14 _ rfl ?_
   refine aw_code hbd3 ?_
   refine aw_block ?_
   refine aw_rs ?_
   refine .m rfl ?_
   refine .v1 (f_not (by rfl)) rfl rfl ?_
   refine .nil (aq_then ?_)
   refine aw_cond rfl (fun hc15 => ?_) (fun hc15 => ?_)
   ·replace h := ite_t hc15 h
    refine aw_rs ?_
    refine .s (f_store (n := 0) (o := 2) (off := 0) (p := []) (c := .I (0 : Int)) (old := .I (0 : Int)) (z := .I (8 : Int)) (c' := .I (8 : Int)) rfl rfl (by rfl) ty32 (by rfl)) rfl (.c rfl (.c rfl .nil)) (.cons rfl .nil) ?_
    refine .nil (aq_then ?_)
    refine aw_ret ?_
    refine aq_block_ret ?_
    refine he14 .ret (some .ret) _ rfl rfl rfl ?_
    refine .v1 (f_not (by rfl)) rfl rfl ?_
    refine .nil (aq_then ?_)
    refine aw_cond rfl (fun _ => ?_) (fun hx => absurd (hx.symm.trans (not_t rfl)) (by simp))
    refine aw_ret ?_
    refine aq_block_ret ?_
    refine aq_then_ret ?_
    obtain rfl := Option.some.inj h
    refine aq_k hb3 .nil (.k 1 rfl (.k 2 rfl (.k 1110 rfl (.k 1111 rfl (.k 1112 rfl .nil))))) ?_
    exact jq
   replace h := ite_f hc15 h
   refine aw_skip ?_
   refine aq_block ?_
   refine he14 .normal none _ rfl rfl rfl ?_
   refine R.again hst3 hpd3 ?_
   refine .v1 (f_not (by rfl)) rfl rfl ?_
   refine .nil (aq_then ?_)
   refine aw_cond rfl (fun hx => absurd (hx.symm.trans (not_f rfl)) (by simp)) (fun _ => ?_)
   refine aw_skip ?_
   refine aq_block ?_
   refine aq_then ?_
   refine aw_r ?_
   refine .b rfl rfl rfl ?_
   refine .m rfl ?_
   refine .nil ?_
   obtain rfl := Option.some.inj h
   refine aq_k hb3 (.k 0 rfl (.k 19 rfl (.k 20 rfl (.k 21 rfl .nil)))) (.k 1111 rfl (.k 1 rfl (.k 2 rfl (.k 1110 rfl (.k 1112 rfl .nil))))) ?_
   exact jq
  replace h := ite_f hc8 h
  refine aw_exit ?_
  refine aq_then_exit ?_
  obtain rfl := Option.some.inj h
  refine aq_k hb3 .nil (.k 1 rfl (.k 2 rfl (.k 1110 rfl (.k 1111 rfl (.k 1112 rfl .nil))))) ?_
  exact jq
 rcases o16 with j16 | j16
 ·replace h := elim_l h
  refine aq_block_exit ?_
  refine hend3 .normal _ lp3.state lp3.pending (.inr rfl) rfl rfl (by rw [hst3]; simp) ?_
  rw [hpd3]
  refine aq_block ?_
  refine aq_then ?_
  refine aw_rs ?_
  refine .s (f_store (n := 0) (o := 2) (off := 0) (p := []) (c := .I (0 : Int)) (old := .I (0 : Int)) (z := .I (0 : Int)) (c' := .I (0 : Int)) rfl rfl (by rfl) ty32 (by rfl)) rfl (.c rfl (.c rfl .nil)) (.cons rfl .nil) ?_
  refine .nil (aq_then ?_)
  refine aw_ret ?_
  obtain rfl := Option.some.inj h
  refine aq_marks (.inl rfl) ⟨rfl, trivial⟩ ?_
  exact aq_finp hb0 rfl (.cell rfl rfl ty32 (by rfl) .nil) (by rfl) rfl ⟨rfl, rfl⟩
 replace h := elim_r h
 refine aq_block_ret ?_
 refine hend3 .ret _ .done (some .ret) (.inl rfl) rfl rfl (by simp) ?_
 show AW _ .ret _ _
 refine aw_ret ?_
 refine aq_block_ret ?_
 refine aq_then_ret ?_
 obtain rfl := Option.some.inj h
 refine aq_marks (.inl rfl) ⟨rfl, trivial⟩ ?_
 exact aq_finp hb0 rfl (.cell rfl rfl ty32 (by rfl) .nil) (by rfl) rfl ⟨rfl, rfl⟩
def F49_pool_asked (n : Nat) (a0 : (List GShard)) (a1 : GTree) : Option (Int) :=
  ((F64_pool_Check n a0).bind fun (y1 : Int) => ((F31_acct_Check n a1).bind fun (y3 : Int) => some (if y3 > y1 then y3 else y1)))
theorem F49_pool_asked_ok {n : Nat} {a0 : (List GShard)} {a1 : GTree} {r : Int} (h : F49_pool_asked n a0 a1 = some r) :
    ACall Tryz.prog GS 49 [.d (eL45 a0), .d (eGTree a1)] [] (fun r' hp' => r' = .I r ∧ hp' = []) := by
 refine acall_of_body mixed Tryz.func49 rfl (by rfl) ?_
 intro C hro hgl hb0
 unfold F49_pool_asked at h
 refine aw_rs ?_
 refine .n (f_box 3 (by rfl) (by rfl)) rfl (.c rfl .nil) rfl ?_
 refine .a rfl ?_
 refine .nil (aq_then ?_)
 refine aw_rds ?_
 refine .v1 (f_move (by rfl)) rfl rfl ?_
 obtain ⟨y1, hy2, h⟩ := bind_some h
 refine .v1 (f_callP hgl (by rfl) en64 rfl (by rfl) (by rfl) (by rfl) (F64_pool_Check_ok hy2)) rfl rfl ?_
 refine .v (f_load (n := 0) (o := 3) (off := 0) (p := []) (c := .d (eGTree a1)) (z := .d (eGTree a1)) (by rfl) rfl ty27 (by rfl)) rfl (.c rfl .nil) (.cons rfl .nil) ?_
 obtain ⟨y3, hy4, h⟩ := bind_some h
 refine .v1 (f_callP hgl (by rfl) en31 rfl (by rfl) (by rfl) (by rfl) (F31_acct_Check_ok hy4)) rfl rfl ?_
 refine .v2 (f_maxI (by rfl)) rfl rfl rfl ?_
 refine .v1 (f_assign (by rfl)) rfl rfl ?_
 refine .nil (by kernel_rfl) ?_
 refine aw_ret ?_
 obtain rfl := Option.some.inj h
 exact aq_finp hb0 rfl (.tmp rfl (by rfl) .nil) (by rfl) rfl ⟨rfl, rfl⟩
def F34_queue_Past (n : Nat) (a0 : GLine) (a1 : Int) : Option (GLine × (List GTx) × Int) :=
  ((F65_queue_Check n a0).bind fun (y1 : Int) => (if (y1 != (0 : Int)) = true then some ((⟨(List.replicate 32 (0 : Int)), []⟩ : GLine), [], y1) else ((F72_queue_nonces n a0).bind fun (y4 : (List GTx)) => ((F73_api_Tx_ahead_f93 n y4 a1).bind fun (y6 : Int) => (if 0 ≤ y6 ∧ y6 ≤ ((a0.Txs).length : Int) ∧ ((a0.Txs).length : Int) ≤ ((a0.Txs).length : Int) then ((F74_Clone n ((a0.Txs).drop (y6).toNat)).bind fun (y9 : List GTx) => (if 0 ≤ (0 : Int) ∧ (0 : Int) ≤ y6 ∧ y6 ≤ ((a0.Txs).length : Int) then ((F74_Clone n ((a0.Txs).take (y6).toNat)).bind fun (y12 : List GTx) => some ((⟨a0.From, y9⟩ : GLine), y12, (0 : Int))) else none)) else none)))))
theorem F34_queue_Past_ok {n : Nat} {a0 : GLine} {a1 : Int} {r : GLine × (List GTx) × Int} (h : F34_queue_Past n a0 a1 = some r) :
    ACall Tryz.prog GS 34 [.d (eGLine a0), .U a1] [] (fun r' hp' => r' = .res [.d (eGLine r.1), .d (eL28 r.2.1), .I r.2.2] ∧ hp' = []) := by
 refine acall_of_body mixed Tryz.func34 rfl (by rfl) ?_
 intro C hro hgl hb0
 unfold F34_queue_Past at h
 refine aw_rs ?_
 refine .n (f_box 2 (by rfl) (by rfl)) rfl (.c rfl .nil) rfl ?_
 refine .n (f_alloc 4 (by rfl) zrv69) rfl .nil rfl ?_
 refine .a rfl ?_
 refine .a rfl ?_
 refine .nil (aq_then ?_)
 refine aw_seq ?_
 refine aw_rs ?_
 refine .l 2 0 [] (.d (eGLine a0)) (.d (eGLine a0)) ty69 ?_
 obtain ⟨y1, hy2, h⟩ := bind_some h
 refine .v1 (f_callP hgl (by rfl) en65 rfl (by rfl) (by rfl) (by rfl) (F65_queue_Check_ok hy2)) rfl rfl ?_
 refine .a rfl ?_
 refine .z ?_
 refine .m rfl ?_
 refine .b rfl rfl rfl ?_
 refine .nil (aq_then ?_)
 refine aw_cond rfl (fun hc3 => ?_) (fun hc3 => ?_)
 ·replace h := ite_t hc3 h
  refine aw_rs ?_
  refine .l 4 0 [] (.st [.d (eA46 (List.replicate 32 (0 : Int))), .N]) (.st [.d (eA46 (List.replicate 32 (0 : Int))), .N]) ty69 ?_
  refine .m rfl ?_
  refine .s (f_store (n := 0) (o := 4) (off := 0) (p := []) (c := .st [.d (eA46 (List.replicate 32 (0 : Int))), .N]) (old := .st [.d (eA46 (List.replicate 32 (0 : Int))), .N]) (z := .st [.d (eA46 (List.replicate 32 (0 : Int))), .N]) (c' := .st [.d (eA46 (List.replicate 32 (0 : Int))), .N]) rfl rfl (by rfl) ty69 (by rfl)) rfl (.c rfl (.c rfl .nil)) (.cons rfl .nil) ?_
  refine .a rfl ?_
  refine .a rfl ?_
  refine .nil (aq_then ?_)
  refine aw_ret ?_
  refine aq_then_ret ?_
  obtain rfl := Option.some.inj h
  refine aq_freezeH [] [(4, .ptr 4 0 []), (5, .d (eL28 ([]))), (6, .I y1)] [(4, .av (.d (eGLine (⟨(List.replicate 32 (0 : Int)), []⟩ : GLine))))] .nil (.keep rfl (.cons rfl .nil (.keep rfl .nil))) (.cons rfl (by rfl) (.st (.cons (.same _) (.cons .nil .nil))) .nil) ?_
  exact aq_finp hb0 rfl (.cell rfl rfl ty69 (by rfl) (.tmp rfl (by rfl) (.tmp rfl (by rfl) .nil))) (by rfl) rfl ⟨rfl, rfl⟩
 replace h := ite_f hc3 h
 refine aw_skip ?_
 refine aq_then ?_
 refine aw_rs ?_
 refine .l 2 0 [] (.d (eGLine a0)) (.d (eGLine a0)) ty69 ?_
 obtain ⟨y4, hy5, h⟩ := bind_some h
 refine .w (f_callG (xs := [.d (eGLine a0)]) (r := .st [.d (eL28 y4), .fn (.func 115) [] []]) (hw := [(1113, .av (.st [.d (eL28 y4), .fn (.func 115) [] []]))]) (fun i => bif Nat.beq i 2 then 1113 else i) [] hgl (by rfl) (cal_f en72) rfl (by rfl) (by rfl) (by rfl) (by rfl) (.cons (.same _) .nil) rfl rfl rfl rfl (F72_queue_nonces_ok hy5)) rfl (.c rfl .nil) .nil (.cons rfl .nil) ?_
 refine .m rfl ?_
 obtain ⟨y6, hy7, h⟩ := bind_some h
 refine .w (f_callG0 (xs := [.st [.d (eL28 y4), .fn (.func 115) [] []], .U a1]) (r := .I y6) (fun i => i) [] hgl (by rfl) (cal_f en73) rfl (by rfl) (by rfl) (by rfl) (by rfl) (.cons (.same _) (.cons (.same _) .nil)) rfl rfl (F73_api_Tx_ahead_f93_ok hy7)) rfl (.c rfl (.c rfl .nil)) .nil .nil ?_
 refine .a rfl ?_
 refine .nil (aq_then ?_)
 refine aw_rds ?_
 refine .v1 (f_fieldAddr (n := 0) (by rfl) fl69_0 (by decide)) rfl rfl ?_
 refine .v (f_load (n := 0) (o := 2) (off := (0 + 0)) (p := [0]) (c := .d (eGLine a0)) (z := .d (eA46 a0.From)) (by rfl) rfl ty47 (by rfl)) rfl (.c rfl .nil) (.cons rfl .nil) ?_
 refine .v1 (f_fieldAddr (n := 32) (by rfl) fl69_1 (by decide)) rfl rfl ?_
 refine .v (f_load (n := 0) (o := 2) (off := (0 + 32)) (p := [1]) (c := .d (eGLine a0)) (z := .d (eL28 a0.Txs)) (by rfl) rfl ty28 (by rfl)) rfl (.c rfl .nil) (.cons rfl .nil) ?_
 refine .v1 (f_move (by rfl)) rfl rfl ?_
 obtain ⟨hb8, h⟩ := ifp h
 refine .v2 (f_sliceD (k1 := .i64) (k2 := .i64) (i := y6) (j := ((a0.Txs).length : Int)) (xs := (a0.Txs).map eGTx) (zs := ((a0.Txs).drop (y6).toNat).map eGTx) (by rfl) sl28 (by intro hx; first | rfl | cases hx) (by intro hx; first | (simp; done) | cases hx) hb8.1 hb8.2.1 (by rw [List.length_map]; exact hb8.2.2) (by simp [List.map_take, List.map_drop, List.take_of_length_le])) rfl rfl rfl ?_
 obtain ⟨y9, hy10, h⟩ := bind_some h
 refine .w (f_callG (xs := [.d (eL28 ((a0.Txs).drop (y6).toNat))]) (r := .slc 1114 0 ((y9).length) 99) (hw := [(1114, .av (.d (.arr 99 ((y9).length) ((y9).map eGTx))))]) (fun i => bif Nat.beq i 0 then 1114 else i) [] hgl (by rfl) (cal_f en74) rfl (by rfl) (by rfl) (by rfl) (by rfl) (.cons (.same _) .nil) rfl rfl rfl rfl (F74_Clone_ok hy10)) rfl (.c rfl .nil) .nil (.cons rfl .nil) ?_
 refine .v2 (f_build (xs := [(0, .d (eA46 a0.From)), (1, .slc 1114 0 ((y9).length) 99)]) (z' := .st [.d (eA46 a0.From), .slc 1114 0 ((y9).length) 99]) (by rfl) zrv69 ag69 rfl (by rfl) ⟨_, _, _, rfl, pl69_0, rfl, rfl, ⟨_, _, _, rfl, pl69_1, rfl, rfl, trivial⟩⟩ (by rfl) (by rfl)) rfl rfl rfl ?_
 refine .v1 (f_fieldAddr (n := 32) (by rfl) fl69_1 (by decide)) rfl rfl ?_
 refine .v (f_load (n := 0) (o := 2) (off := (0 + 32)) (p := [1]) (c := .d (eGLine a0)) (z := .d (eL28 a0.Txs)) (by rfl) rfl ty28 (by rfl)) rfl (.c rfl .nil) (.cons rfl .nil) ?_
 refine .v1 (f_move (by rfl)) rfl rfl ?_
 obtain ⟨hb11, h⟩ := ifp h
 refine .v2 (f_sliceD (k1 := .i64) (k2 := .i64) (i := (0 : Int)) (j := y6) (xs := (a0.Txs).map eGTx) (zs := ((a0.Txs).take (y6).toNat).map eGTx) (by rfl) sl28 (by intro hx; first | rfl | cases hx) (by intro hx; first | (simp; done) | cases hx) hb11.1 hb11.2.1 (by rw [List.length_map]; exact hb11.2.2) (by simp [List.map_take, List.map_drop, List.take_of_length_le])) rfl rfl rfl ?_
 obtain ⟨y12, hy13, h⟩ := bind_some h
 refine .w (f_callG (xs := [.d (eL28 ((a0.Txs).take (y6).toNat))]) (r := .slc 1115 0 ((y12).length) 99) (hw := [(1115, .av (.d (.arr 99 ((y12).length) ((y12).map eGTx))))]) (fun i => bif Nat.beq i 0 then 1115 else i) [] hgl (by rfl) (cal_f en74) rfl (by rfl) (by rfl) (by rfl) (by rfl) (.cons (.same _) .nil) rfl rfl rfl rfl (F74_Clone_ok hy13)) rfl (.c rfl .nil) .nil (.cons rfl .nil) ?_
 refine .s (f_store (n := 0) (o := 4) (off := 0) (p := []) (c := .st [.d (eA46 (List.replicate 32 (0 : Int))), .N]) (old := .st [.d (eA46 (List.replicate 32 (0 : Int))), .N]) (z := .st [.d (eA46 a0.From), .slc 1114 0 ((y9).length) 99]) (c' := .st [.d (eA46 a0.From), .slc 1114 0 ((y9).length) 99]) rfl rfl (by rfl) ty69 (by rfl)) rfl (.c rfl (.c rfl .nil)) (.cons rfl .nil) ?_
 refine .v1 (f_assign (by rfl)) rfl rfl ?_
 refine .v1 (f_assign (by rfl)) rfl rfl ?_
 refine .nil (by kernel_rfl) ?_
 refine aw_ret ?_
 obtain rfl := Option.some.inj h
 refine aq_freezeH [(1115, (.arr 99 ((y12).length) ((y12).map eGTx))), (1114, (.arr 99 ((y9).length) ((y9).map eGTx)))] [(4, .ptr 4 0 []), (5, .d (eL28 y12)), (6, .I (0 : Int))] [(4, .av (.d (eGLine (⟨a0.From, y9⟩ : GLine))))] (.cons rfl (.cons rfl .nil)) (.keep rfl (.cons rfl (.whole (.head _)) (.keep rfl .nil))) (.cons rfl (by rfl) (.st (.cons (.same _) (.cons (.whole (.tail _ (.head _))) .nil))) .nil) ?_
 exact aq_finp hb0 rfl (.cell rfl rfl ty69 (by rfl) (.tmp rfl (by rfl) (.tmp rfl (by rfl) .nil))) (by rfl) rfl ⟨rfl, rfl⟩
def F33_acct_Get (n : Nat) (a0 : GTree) (a1 : (List Int)) : Option (GAccount × Int) :=
  ((F31_acct_Check n a0).bind fun (y1 : Int) => (if (y1 != (0 : Int)) = true then some ((⟨(0 : Int), (0 : Int)⟩ : GAccount), y1) else ((F70_tree_Get n a0 a1).bind fun (y4 : (List Int) × Bool) => (if (!y4.2) = true then some ((⟨(0 : Int), (0 : Int)⟩ : GAccount), (0 : Int)) else ((F71_acct_Read n y4.1).bind fun (y7 : GAccount × Int) => some (y7.1, y7.2))))))
theorem F33_acct_Get_ok {n : Nat} {a0 : GTree} {a1 : (List Int)} {r : GAccount × Int} (h : F33_acct_Get n a0 a1 = some r) :
    ACall Tryz.prog GS 33 [.d (eGTree a0), .d (eA46 a1)] [] (fun r' hp' => r' = .res [.d (eGAccount r.1), .I r.2] ∧ hp' = []) := by
 refine acall_of_body mixed Tryz.func33 rfl (by rfl) ?_
 intro C hro hgl hb0
 unfold F33_acct_Get at h
 refine aw_rs ?_
 refine .n (f_box 2 (by rfl) (by rfl)) rfl (.c rfl .nil) rfl ?_
 refine .n (f_box 3 (by rfl) (by rfl)) rfl (.c rfl .nil) rfl ?_
 refine .n (f_alloc 4 (by rfl) zr80) rfl .nil rfl ?_
 refine .a rfl ?_
 refine .nil (aq_then ?_)
 refine aw_seq ?_
 refine aw_rs ?_
 refine .l 2 0 [] (.d (eGTree a0)) (.d (eGTree a0)) ty27 ?_
 obtain ⟨y1, hy2, h⟩ := bind_some h
 refine .v1 (f_callP hgl (by rfl) en31 rfl (by rfl) (by rfl) (by rfl) (F31_acct_Check_ok hy2)) rfl rfl ?_
 refine .a rfl ?_
 refine .z ?_
 refine .m rfl ?_
 refine .b rfl rfl rfl ?_
 refine .nil (aq_then ?_)
 refine aw_cond rfl (fun hc3 => ?_) (fun hc3 => ?_)
 ·replace h := ite_t hc3 h
  refine aw_rs ?_
  refine .v (f_build (xs := []) (z' := .d (eGAccount (⟨(0 : Int), (0 : Int)⟩ : GAccount))) (by rfl) zr80 ag80 rfl (by rfl) trivial (by rfl) (by rfl)) rfl .nil .nil ?_
  refine .m rfl ?_
  refine .s (f_store (n := 0) (o := 4) (off := 0) (p := []) (c := .d (eGAccount (⟨(0 : Int), (0 : Int)⟩ : GAccount))) (old := .d (eGAccount (⟨(0 : Int), (0 : Int)⟩ : GAccount))) (z := .d (eGAccount (⟨(0 : Int), (0 : Int)⟩ : GAccount))) (c' := .d (eGAccount (⟨(0 : Int), (0 : Int)⟩ : GAccount))) rfl rfl (by rfl) ty80 (by rfl)) rfl (.c rfl (.c rfl .nil)) (.cons rfl .nil) ?_
  refine .a rfl ?_
  refine .nil (aq_then ?_)
  refine aw_ret ?_
  refine aq_then_ret ?_
  obtain rfl := Option.some.inj h
  exact aq_finp hb0 rfl (.cell rfl rfl ty80 (by rfl) (.tmp rfl (by rfl) .nil)) (by rfl) rfl ⟨rfl, rfl⟩
 replace h := ite_f hc3 h
 refine aw_skip ?_
 refine aq_then ?_
 refine aw_rs ?_
 refine .l 2 0 [] (.d (eGTree a0)) (.d (eGTree a0)) ty27 ?_
 refine .l 3 0 [] (.d (eA46 a1)) (.d (eA46 a1)) ty47 ?_
 obtain ⟨y4, hy5, h⟩ := bind_some h
 refine .v2 (f_callP hgl (by rfl) en70 rfl (by rfl) (by rfl) (by rfl) (F70_tree_Get_ok hy5)) rfl rfl rfl ?_
 refine .m rfl ?_
 refine .v1 (f_extract (by rfl) rfl) rfl rfl ?_
 refine .v1 (f_extract (by rfl) rfl) rfl rfl ?_
 refine .a rfl ?_
 refine .a rfl ?_
 refine .nil (aq_then ?_)
 refine aw_seq ?_
 refine aw_rs ?_
 refine .m rfl ?_
 refine .v1 (f_not (by rfl)) rfl rfl ?_
 refine .nil (aq_then ?_)
 refine aw_cond rfl (fun hc6 => ?_) (fun hc6 => ?_)
 ·replace h := ite_t hc6 h
  refine aw_rs ?_
  refine .v (f_build (xs := []) (z' := .d (eGAccount (⟨(0 : Int), (0 : Int)⟩ : GAccount))) (by rfl) zr80 ag80 rfl (by rfl) trivial (by rfl) (by rfl)) rfl .nil .nil ?_
  refine .s (f_store (n := 0) (o := 4) (off := 0) (p := []) (c := .d (eGAccount (⟨(0 : Int), (0 : Int)⟩ : GAccount))) (old := .d (eGAccount (⟨(0 : Int), (0 : Int)⟩ : GAccount))) (z := .d (eGAccount (⟨(0 : Int), (0 : Int)⟩ : GAccount))) (c' := .d (eGAccount (⟨(0 : Int), (0 : Int)⟩ : GAccount))) rfl rfl (by rfl) ty80 (by rfl)) rfl (.c rfl (.c rfl .nil)) (.cons rfl .nil) ?_
  refine .a rfl ?_
  refine .nil (aq_then ?_)
  refine aw_ret ?_
  refine aq_then_ret ?_
  obtain rfl := Option.some.inj h
  exact aq_finp hb0 rfl (.cell rfl rfl ty80 (by rfl) (.tmp rfl (by rfl) .nil)) (by rfl) rfl ⟨rfl, rfl⟩
 replace h := ite_f hc6 h
 refine aw_skip ?_
 refine aq_then ?_
 refine aw_rs ?_
 refine .m rfl ?_
 obtain ⟨y7, hy8, h⟩ := bind_some h
 refine .v1 (f_callP hgl (by rfl) en71 rfl (by rfl) (by rfl) (by rfl) (F71_acct_Read_ok hy8)) rfl rfl ?_
 refine .v1 (f_extract (by rfl) rfl) rfl rfl ?_
 refine .v1 (f_extract (by rfl) rfl) rfl rfl ?_
 refine .s (f_store (n := 0) (o := 4) (off := 0) (p := []) (c := .d (eGAccount (⟨(0 : Int), (0 : Int)⟩ : GAccount))) (old := .d (eGAccount (⟨(0 : Int), (0 : Int)⟩ : GAccount))) (z := .d (eGAccount y7.1)) (c' := .d (eGAccount y7.1)) rfl rfl (by rfl) ty80 (by rfl)) rfl (.c rfl (.c rfl .nil)) (.cons rfl .nil) ?_
 refine .a rfl ?_
 refine .nil (aq_then ?_)
 refine aw_ret ?_
 obtain rfl := Option.some.inj h
 exact aq_finp hb0 rfl (.cell rfl rfl ty80 (by rfl) (.tmp rfl (by rfl) .nil)) (by rfl) rfl ⟨rfl, rfl⟩
def F28_beadrolllaw21_apart_s0 (n : Nat) (a0 : (List GShard)) (a1 : (List GShard)) (a2 : Int) (z0_0 : Int) : Option ((Int) ⊕ ((Unit) ⊕ (Unit))) :=
  (if (decide (z0_0 < ((a0).length : Int))) = true then (((if (z0_0 != a2) = true then ((rd a0 z0_0).bind fun (x8 : GShard) => ((rd a1 z0_0).bind fun (x11 : GShard) => ((F13_beadrollref20_Same n x8 x11).bind fun (y14 : Bool) => some (!y14)))) else some false)).bind fun (o16 : Bool) => (if o16 = true then some (.inr (.inr ())) else some (.inl (IntKind.i64.wrap (z0_0 + (1 : Int)))))) else some (.inr (.inl ())))
def F28_beadrolllaw21_apart (n : Nat) (a0 : (List GShard)) (a1 : (List GShard)) (a2 : Int) : Option (Bool) :=
  (((if (((a0).length : Int) != ((a1).length : Int)) = true then some true else ((F64_pool_Check n a0).bind fun (y2 : Int) => some (y2 != (0 : Int))))).bind fun (o4 : Bool) => (if o4 = true then some false else ((loopF (fun (z : Int) => F28_beadrolllaw21_apart_s0 n a0 a1 a2 z) n (0 : Int)).bind (Sum.elim (fun (j19 : Unit) => some true) (fun (j19 : Unit) => some false)))))
theorem F28_beadrolllaw21_apart_ok {n : Nat} {a0 : (List GShard)} {a1 : (List GShard)} {a2 : Int} {r : Bool} (h : F28_beadrolllaw21_apart n a0 a1 a2 = some r) :
    ACall Tryz.prog GS 28 [.d (eL45 a0), .d (eL45 a1), .I a2] [] (fun r' hp' => r' = .B r ∧ hp' = []) := by
 refine acall_of_body mixed Tryz.func28 rfl (by rfl) ?_
 intro C hro hgl hb0
 unfold F28_beadrolllaw21_apart at h
 refine aw_rs ?_
 refine .a rfl ?_
 refine .nil (aq_then ?_)
 refine aw_seq ?_
 refine aw_seq ?_
 obtain ⟨o4, ho21, h⟩ := bind_some h
 refine aw_join (.normal) ⟨[(0, .d (eL45 a0)), (1, .d (eL45 a1)), (2, .I a2), (17, .B o4)], [], []⟩ ?_ ?_
 ·replace h := ho21
  refine aw_r ?_
  refine .m rfl ?_
  refine .v1 (f_lenD (n := (a0).length) (by rfl) sl45 rfl (by simp)) rfl rfl ?_
  refine .m rfl ?_
  refine .v1 (f_lenD (n := (a1).length) (by rfl) sl45 rfl (by simp)) rfl rfl ?_
  refine .b rfl rfl rfl ?_
  refine .m rfl ?_
  rcases Bool.eq_false_or_eq_true (((a0).length : Int) != ((a1).length : Int)) with hc1 | hc1
  ·replace h := ite_t hc1 h
   refine .q rfl rfl rfl hc1 rfl ?_
   refine .q rfl rfl rfl hc1 rfl ?_
   refine .q rfl rfl rfl hc1 rfl ?_
   refine .v2 (f_pick_true (by rfl) hc1) rfl rfl rfl ?_
   refine .nil ?_
   obtain rfl := Option.some.inj h
   refine aq_k hb0 (.k 0 rfl (.k 1 rfl (.k 2 rfl (.k 17 rfl .nil)))) .nil ?_
   exact jq
  replace h := ite_f hc1 h
  refine .g1 (f_move (by rfl)) rfl rfl rfl hc1 rfl ?_
  obtain ⟨y2, hy3, h⟩ := bind_some h
  refine .g1 (f_callP hgl (by rfl) en64 rfl (by rfl) (by rfl) (by rfl) (F64_pool_Check_ok hy3)) rfl rfl rfl hc1 rfl ?_
  refine .g2 (f_binI (by rfl) rfl (by rfl)) rfl rfl rfl hc1 rfl rfl ?_
  refine .v2 (f_pick_false (by rfl) hc1) rfl rfl rfl ?_
  refine .nil ?_
  obtain rfl := Option.some.inj h
  refine aq_k hb0 (.k 0 rfl (.k 1 rfl (.k 2 rfl (.k 17 rfl .nil)))) .nil ?_
  exact jq
 refine aq_then ?_
 refine aw_cond rfl (fun hc5 => ?_) (fun hc5 => ?_)
 ·replace h := ite_t hc5 h
  refine aw_rs ?_
  refine .a rfl ?_
  refine .nil (aq_then ?_)
  refine aw_ret ?_
  refine aq_then_ret ?_
  obtain rfl := Option.some.inj h
  exact aq_finp hb0 rfl (.tmp rfl (by rfl) .nil) (by rfl) rfl ⟨rfl, rfl⟩
 replace h := ite_f hc5 h
 refine aw_skip ?_
 refine aq_then ?_
 refine aw_seq ?_
 refine aw_rs ?_
 refine .a rfl ?_
 refine .nil (aq_then ?_)
 refine aw_block ?_
 refine aw_k hb0 (.k 0 rfl (.k 1 rfl (.k 2 rfl (.k 7 rfl .nil)))) .nil ?_
 obtain ⟨o19, ho20, h⟩ := bind_some h
 refine aw_loopX (σ := Int) (fun z => ⟨[(0, .d (eL45 a0)), (1, .d (eL45 a1)), (2, .I a2), (7, .I z)], [], []⟩) (Sum.elim (fun _ => .exit 0) (fun _ => .ret)) (Sum.elim (fun j19 => ⟨[], [], []⟩) (fun j19 => ⟨[(6, .B false)], [], []⟩)) ho20 (by intro b; rcases b with _ | _ <;> rfl) ?_ ?_
 ·clear h ho20
  intro z0_0 o h
  change F28_beadrolllaw21_apart_s0 n a0 a1 a2 z0_0 = some o at h
  unfold F28_beadrolllaw21_apart_s0 at h
  show AW _ _ _ ⟨[(0, .d (eL45 a0)), (1, .d (eL45 a1)), (2, .I a2), (7, .I z0_0)], [], []⟩
  refine aw_seq ?_
  refine aw_rs ?_
  refine .m rfl ?_
  refine .m rfl ?_
  refine .v1 (f_lenD (n := (a0).length) (by rfl) sl45 rfl (by simp)) rfl rfl ?_
  refine .b rfl rfl rfl ?_
  refine .nil (aq_then ?_)
  refine aw_cond rfl (fun hc6 => ?_) (fun hc6 => ?_)
  ·replace h := ite_t hc6 h
   refine aw_skip ?_
   refine aq_then ?_
   refine aw_seq ?_
   refine aw_block ?_
   refine aw_seq ?_
   obtain ⟨o16, ho18, h⟩ := bind_some h
   refine aw_join (.normal) ⟨[(0, .d (eL45 a0)), (1, .d (eL45 a1)), (2, .I a2), (7, .I z0_0), (38, .B o16)], [], []⟩ ?_ ?_
   ·replace h := ho18
    refine aw_rd ?_
    refine .v1 (f_move (by rfl)) rfl rfl ?_
    refine .v1 (f_move (by rfl)) rfl rfl ?_
    refine .v2 (f_binI (by rfl) rfl (by rfl)) rfl rfl rfl ?_
    refine .v1 (f_move (by rfl)) rfl rfl ?_
    rcases Bool.eq_false_or_eq_true (z0_0 != a2) with hc7 | hc7
    ·replace h := ite_t hc7 h
     refine .g1 (f_move (by rfl)) rfl rfl rfl hc7 rfl ?_
     refine .g1 (f_move (by rfl)) rfl rfl rfl hc7 rfl ?_
     obtain ⟨x8, hx9, h⟩ := bind_some h
     obtain ⟨hx10, hx9⟩ := rd_some hx9
     refine .g2 (f_indexS (by rfl) sl45 hx10 (rd_map _ hx9)) rfl rfl rfl hc7 rfl rfl ?_
     refine .g1 (f_loadR (z := (eGShard x8)) (by rfl) ty24) rfl rfl rfl hc7 rfl ?_
     refine .g1 (f_move (by rfl)) rfl rfl rfl hc7 rfl ?_
     refine .g1 (f_move (by rfl)) rfl rfl rfl hc7 rfl ?_
     obtain ⟨x11, hx12, h⟩ := bind_some h
     obtain ⟨hx13, hx12⟩ := rd_some hx12
     refine .g2 (f_indexS (by rfl) sl45 hx13 (rd_map _ hx12)) rfl rfl rfl hc7 rfl rfl ?_
     refine .g1 (f_loadR (z := (eGShard x11)) (by rfl) ty24) rfl rfl rfl hc7 rfl ?_
     obtain ⟨y14, hy15, h⟩ := bind_some h
     refine .g2 (f_callP hgl (by rfl) en13 rfl (by rfl) (by rfl) (by rfl) (F13_beadrollref20_Same_ok hy15)) rfl rfl rfl hc7 rfl rfl ?_
     refine .g1 (f_not (by rfl)) rfl rfl rfl hc7 rfl ?_
     refine .v2 (f_pick_true (by rfl) hc7) rfl rfl rfl ?_
     refine .nil (by kernel_rfl) ?_
     obtain rfl := Option.some.inj h
     refine aq_k hb0 (.k 0 rfl (.k 1 rfl (.k 2 rfl (.k 7 rfl (.k 38 rfl .nil))))) .nil ?_
     exact jq
    replace h := ite_f hc7 h
    refine .q rfl rfl rfl hc7 rfl ?_
    refine .q rfl rfl rfl hc7 rfl ?_
    refine .q rfl rfl rfl hc7 rfl ?_
    refine .q rfl rfl rfl hc7 rfl ?_
    refine .q rfl rfl rfl hc7 rfl ?_
    refine .q rfl rfl rfl hc7 rfl ?_
    refine .q rfl rfl rfl hc7 rfl ?_
    refine .q rfl rfl rfl hc7 rfl ?_
    refine .q rfl rfl rfl hc7 rfl ?_
    refine .q rfl rfl rfl hc7 rfl ?_
    refine .v2 (f_pick_false (by rfl) hc7) rfl rfl rfl ?_
    refine .nil (by kernel_rfl) ?_
    obtain rfl := Option.some.inj h
    refine aq_k hb0 (.k 0 rfl (.k 1 rfl (.k 2 rfl (.k 7 rfl (.k 38 rfl .nil))))) .nil ?_
    exact jq
   refine aq_then ?_
   refine aw_cond rfl (fun hc17 => ?_) (fun hc17 => ?_)
   ·replace h := ite_t hc17 h
    refine aw_rs ?_
    refine .a rfl ?_
    refine .nil (aq_then ?_)
    refine aw_ret ?_
    refine aq_block_ret ?_
    refine aq_then_ret ?_
    obtain rfl := Option.some.inj h
    refine aq_k hb0 (.k 6 rfl .nil) .nil ?_
    exact jq
   replace h := ite_f hc17 h
   refine aw_skip ?_
   refine aq_block ?_
   refine aq_then ?_
   refine aw_r ?_
   refine .m rfl ?_
   refine .b rfl rfl rfl ?_
   refine .a rfl ?_
   refine .nil ?_
   obtain rfl := Option.some.inj h
   refine aq_k hb0 (.k 0 rfl (.k 1 rfl (.k 2 rfl (.k 7 rfl .nil)))) .nil ?_
   exact jq
  replace h := ite_f hc6 h
  refine aw_exit ?_
  refine aq_then_exit ?_
  obtain rfl := Option.some.inj h
  refine aq_k hb0 .nil .nil ?_
  exact jq
 rcases o19 with j19 | j19
 ·replace h := elim_l h
  refine aq_block_exit ?_
  refine aq_then ?_
  refine aw_rs ?_
  refine .a rfl ?_
  refine .nil (aq_then ?_)
  refine aw_ret ?_
  obtain rfl := Option.some.inj h
  exact aq_finp hb0 rfl (.tmp rfl (by rfl) .nil) (by rfl) rfl ⟨rfl, rfl⟩
 replace h := elim_r h
 refine aq_block_ret ?_
 refine aq_then_ret ?_
 obtain rfl := Option.some.inj h
 exact aq_finp hb0 rfl (.tmp rfl (by rfl) .nil) (by rfl) rfl ⟨rfl, rfl⟩
def F51_pool_Submit_1_699 (n : Nat) (a0 : GShard) (a1 : Int) (a2 : GAccount) (a3 : GTx) : Option ((List GTx) × Int × GShard) :=
  ((F52_shard_Submit n a0 a1 a2.Nonce a3).bind fun (y1 : GShard × (List GTx) × Int) => some (y1.2.1, y1.2.2, y1.1))
theorem F51_pool_Submit_1_699_ok {n : Nat} {a0 : GShard} {a1 : Int} {a2 : GAccount} {a3 : GTx} {r : (List GTx) × Int × GShard} (h : F51_pool_Submit_1_699 n a0 a1 a2 a3 = some r) :
    ACall Tryz.prog GS 51 [.d (eGShard a0), .ptr 0 0 [], .ptr 1 0 [], .ptr 2 0 []] [(0, .av (.I a1)), (1, .av (.d (eGAccount a2))), (2, .av (.d (eGTx a3)))] (fun r' hp' => r' = .res [.d (eGShard r.2.2), .d (eL28 r.1), .I r.2.1] ∧ hp' = [(5, .av (.d (eGShard r.2.2))), (0, .av (.I a1)), (1, .av (.d (eGAccount a2))), (2, .av (.d (eGTx a3)))]) := by
 refine acall_of_body mixed Tryz.func51 rfl (by rfl) ?_
 intro C hro hgl hb0
 unfold F51_pool_Submit_1_699 at h
 refine aw_rs ?_
 refine .n (f_box 4 (by rfl) (by rfl)) rfl (.c rfl .nil) rfl ?_
 refine .n (f_alloc 5 (by rfl) zrv24) rfl .nil rfl ?_
 refine .a rfl ?_
 refine .a rfl ?_
 refine .z ?_
 refine .l 4 0 [] (.d (eGShard a0)) (.d (eGShard a0)) ty24 ?_
 refine .l 0 0 [] (.I a1) (.I a1) ty3 ?_
 refine .v1 (f_fieldAddr (n := 0) (by rfl) fl80_0 (by decide)) rfl rfl ?_
 refine .l 1 (0 + 0) [0] (.d (eGAccount a2)) (.U a2.Nonce) ty48 ?_
 refine .l 2 0 [] (.d (eGTx a3)) (.d (eGTx a3)) ty50 ?_
 obtain ⟨y1, hy2, h⟩ := bind_some h
 refine .v (f_callP hgl (by rfl) en52 rfl (by rfl) (by rfl) (by rfl) (F52_shard_Submit_ok hy2)) rfl (.c rfl (.c rfl (.c rfl (.c rfl .nil)))) .nil ?_
 refine .v1 (f_extract (by rfl) rfl) rfl rfl ?_
 refine .v1 (f_extract (by rfl) rfl) rfl rfl ?_
 refine .v1 (f_extract (by rfl) rfl) rfl rfl ?_
 refine .s (f_store (n := 0) (o := 5) (off := 0) (p := []) (c := .st [.N]) (old := .st [.N]) (z := .d (eGShard y1.1)) (c' := .d (eGShard y1.1)) rfl rfl (by rfl) ty24 (by rfl)) rfl (.c rfl (.c rfl .nil)) (.cons rfl .nil) ?_
 refine .a rfl ?_
 refine .a rfl ?_
 refine .nil (aq_then ?_)
 refine aw_ret ?_
 obtain rfl := Option.some.inj h
 refine aq_k hb0 (.k 5 rfl (.k 6 rfl (.k 7 rfl .nil))) (.k 5 rfl (.k 0 rfl (.k 1 rfl (.k 2 rfl .nil)))) ?_
 exact aq_fin1 (.cell rfl rfl ty24 (by rfl) (.tmp rfl (by rfl) (.tmp rfl (by rfl) .nil))) rfl ⟨rfl, rfl⟩
def F50_api_Tx_5c5 (n : Nat) (a0 : (List GShard)) (a1 : Int) (a2 : Int) (a3 : GAccount) (a4 : GTx) : Option ((List GShard) × (List GTx) × Int) :=
  (((if (decide (a1 < (0 : Int))) = true then some true else some (decide (a1 ≥ ((a0).length : Int))))).bind fun (o2 : Bool) => (if o2 = true then some ([], [], (2 : Int)) else ((rd a0 a1).bind fun (x4 : GShard) => ((F51_pool_Submit_1_699 n x4 a2 a3 a4).bind fun (y7 : (List GTx) × Int × GShard) => (if (y7.2.1 != (0 : Int)) = true then some ([], [], y7.2.1) else ((F97_pool_Twin n a0).bind fun (y10 : List GShard) => ((rd y10 a1).bind fun (x12 : GShard) => some ((y10.set (0 + (a1).toNat) y7.2.2), y7.1, (0 : Int)))))))))
theorem F50_api_Tx_5c5_ok {n : Nat} {a0 : (List GShard)} {a1 : Int} {a2 : Int} {a3 : GAccount} {a4 : GTx} {r : (List GShard) × (List GTx) × Int} (h : F50_api_Tx_5c5 n a0 a1 a2 a3 a4 = some r) :
    ACall Tryz.prog GS 50 [.d (eL45 a0), .I a1, .fn (.func 51) [] [.ptr 0 0 [], .ptr 1 0 [], .ptr 2 0 []]] [(0, .av (.I a2)), (1, .av (.d (eGAccount a3))), (2, .av (.d (eGTx a4)))] (fun r' hp' => r' = .res [.d (eL45 r.1), .d (eL28 r.2.1), .I r.2.2] ∧ hp' = [(0, .av (.I a2)), (1, .av (.d (eGAccount a3))), (2, .av (.d (eGTx a4)))]) := by
 refine acall_of_body mixed Tryz.func50 rfl (by rfl) ?_
 intro C hro hgl hb0
 unfold F50_api_Tx_5c5 at h
 refine aw_rs ?_
 refine .a rfl ?_
 refine .a rfl ?_
 refine .a rfl ?_
 refine .z ?_
 refine .a rfl ?_
 refine .nil (aq_then ?_)
 refine aw_seq ?_
 refine aw_seq ?_
 obtain ⟨o2, ho15, h⟩ := bind_some h
 refine aw_join (.normal) ⟨[(0, .d (eL45 a0)), (1, .I a1), (2, .fn (.func 51) [] [.ptr 0 0 [], .ptr 1 0 [], .ptr 2 0 []]), (9, .N), (18, .B o2)], [(0, .av (.I a2)), (1, .av (.d (eGAccount a3))), (2, .av (.d (eGTx a4)))], []⟩ ?_ ?_
 ·replace h := ho15
  refine aw_r ?_
  refine .m rfl ?_
  refine .b rfl rfl rfl ?_
  refine .m rfl ?_
  rcases Bool.eq_false_or_eq_true (decide (a1 < (0 : Int))) with hc1 | hc1
  ·replace h := ite_t hc1 h
   refine .q rfl rfl rfl hc1 rfl ?_
   refine .q rfl rfl rfl hc1 rfl ?_
   refine .q rfl rfl rfl hc1 rfl ?_
   refine .q rfl rfl rfl hc1 rfl ?_
   refine .v2 (f_pick_true (by rfl) hc1) rfl rfl rfl ?_
   refine .nil ?_
   obtain rfl := Option.some.inj h
   refine aq_k hb0 (.k 0 rfl (.k 1 rfl (.k 2 rfl (.k 9 rfl (.k 18 rfl .nil))))) (.k 0 rfl (.k 1 rfl (.k 2 rfl .nil))) ?_
   exact jq
  replace h := ite_f hc1 h
  refine .g1 (f_move (by rfl)) rfl rfl rfl hc1 rfl ?_
  refine .g1 (f_move (by rfl)) rfl rfl rfl hc1 rfl ?_
  refine .g1 (f_lenD (n := (a0).length) (by rfl) sl45 rfl (by simp)) rfl rfl rfl hc1 rfl ?_
  refine .g2 (f_binI (by rfl) rfl (by rfl)) rfl rfl rfl hc1 rfl rfl ?_
  refine .v2 (f_pick_false (by rfl) hc1) rfl rfl rfl ?_
  refine .nil ?_
  obtain rfl := Option.some.inj h
  refine aq_k hb0 (.k 0 rfl (.k 1 rfl (.k 2 rfl (.k 9 rfl (.k 18 rfl .nil))))) (.k 0 rfl (.k 1 rfl (.k 2 rfl .nil))) ?_
  exact jq
 refine aq_then ?_
 refine aw_cond rfl (fun hc3 => ?_) (fun hc3 => ?_)
 ·replace h := ite_t hc3 h
  refine aw_rs ?_
  refine .m rfl ?_
  refine .a rfl ?_
  refine .a rfl ?_
  refine .a rfl ?_
  refine .nil (aq_then ?_)
  refine aw_ret ?_
  refine aq_then_ret ?_
  obtain rfl := Option.some.inj h
  refine aq_freeze [] [(6, .d (eL45 ([]))), (7, .d (eL28 ([]))), (8, .I (2 : Int))] .nil (.cons rfl .nil (.cons rfl .nil (.keep rfl .nil))) ?_
  refine aq_k hb0 (.k 6 rfl (.k 7 rfl (.k 8 rfl .nil))) (.k 0 rfl (.k 1 rfl (.k 2 rfl .nil))) ?_
  exact aq_fin1 (.tmp rfl (by rfl) (.tmp rfl (by rfl) (.tmp rfl (by rfl) .nil))) rfl ⟨rfl, rfl⟩
 replace h := ite_f hc3 h
 refine aw_skip ?_
 refine aq_then ?_
 refine aw_rs ?_
 refine .m rfl ?_
 refine .m rfl ?_
 refine .m rfl ?_
 obtain ⟨x4, hx5, h⟩ := bind_some h
 obtain ⟨hx6, hx5⟩ := rd_some hx5
 refine .v2 (f_indexS (by rfl) sl45 hx6 (rd_map _ hx5)) rfl rfl rfl ?_
 refine .v1 (f_loadR (z := (eGShard x4)) (by rfl) ty24) rfl rfl ?_
 obtain ⟨y7, hy8, h⟩ := bind_some h
 refine .w (f_callG (xs := [.d (eGShard x4)]) (r := .res [.d (eGShard y7.2.2), .d (eL28 y7.1), .I y7.2.1]) (hw := [(1116, .av (.d (eGShard y7.2.2))), (0, .av (.I a2)), (1, .av (.d (eGAccount a3))), (2, .av (.d (eGTx a4)))]) (fun i => bif Nat.beq i 5 then 1116 else i) [] hgl (by rfl) (cal_v (first := []) (caps := [.ptr 0 0 [], .ptr 1 0 [], .ptr 2 0 []]) en51) rfl (by rfl) (by rfl) (by rfl) (by rfl) (.cons (.same _) (.cons (.same _) (.cons (.same _) (.cons (.same _) .nil)))) rfl rfl rfl rfl (F51_pool_Submit_1_699_ok hy8)) rfl (.c rfl (.c rfl .nil)) (.cons rfl (.cons rfl (.cons rfl .nil))) (.cons rfl .nil) ?_
 refine .m rfl ?_
 refine .v1 (f_extract (by rfl) rfl) rfl rfl ?_
 refine .v1 (f_extract (by rfl) rfl) rfl rfl ?_
 refine .v1 (f_extract (by rfl) rfl) rfl rfl ?_
 refine .n (f_alloc 10 (by rfl) zrv24) rfl .nil rfl ?_
 refine .s (f_store (n := 0) (o := 10) (off := 0) (p := []) (c := .st [.N]) (old := .st [.N]) (z := .d (eGShard y7.2.2)) (c' := .d (eGShard y7.2.2)) rfl rfl (by rfl) ty24 (by rfl)) rfl (.c rfl (.c rfl .nil)) (.cons rfl .nil) ?_
 refine .a rfl ?_
 refine .a rfl ?_
 refine .nil (aq_then ?_)
 refine aw_seq ?_
 refine aw_rs ?_
 refine .m rfl ?_
 refine .b rfl rfl rfl ?_
 refine .nil (aq_then ?_)
 refine aw_cond rfl (fun hc9 => ?_) (fun hc9 => ?_)
 ·replace h := ite_t hc9 h
  refine aw_rs ?_
  refine .m rfl ?_
  refine .m rfl ?_
  refine .a rfl ?_
  refine .a rfl ?_
  refine .a rfl ?_
  refine .nil (aq_then ?_)
  refine aw_ret ?_
  refine aq_then_ret ?_
  obtain rfl := Option.some.inj h
  refine aq_freeze [] [(7, .d (eL28 ([]))), (8, .I y7.2.1), (6, .d (eL45 ([])))] .nil (.cons rfl .nil (.keep rfl (.cons rfl .nil .nil))) ?_
  refine aq_k hb0 (.k 6 rfl (.k 7 rfl (.k 8 rfl .nil))) (.k 0 rfl (.k 1 rfl (.k 2 rfl .nil))) ?_
  exact aq_fin1 (.tmp rfl (by rfl) (.tmp rfl (by rfl) (.tmp rfl (by rfl) .nil))) rfl ⟨rfl, rfl⟩
 replace h := ite_f hc9 h
 refine aw_skip ?_
 refine aq_then ?_
 refine aw_rs ?_
 refine .m rfl ?_
 obtain ⟨y10, hy11, h⟩ := bind_some h
 refine .w (f_callG (xs := [.d (eL45 a0)]) (r := .slc 1117 0 ((y10).length) 1) (hw := [(1117, .av (.d (.arr 1 ((y10).length) ((y10).map eGShard))))]) (fun i => bif Nat.beq i 1082 then 1117 else i) [] hgl (by rfl) (cal_f en97) rfl (by rfl) (by rfl) (by rfl) (by rfl) (.cons (.same _) .nil) rfl rfl rfl rfl (F97_pool_Twin_ok hy11)) rfl (.c rfl .nil) .nil (.cons rfl .nil) ?_
 refine .a rfl ?_
 refine .z ?_
 refine .m rfl ?_
 refine .m rfl ?_
 refine .l 10 0 [] (.d (eGShard y7.2.2)) (.d (eGShard y7.2.2)) ty24 ?_
 obtain ⟨x12, hx13, h⟩ := bind_some h
 obtain ⟨hx14, hx13⟩ := rd_some hx13
 refine .v (f_indexSW (by rfl) sl45 hx14 (rd_map _ hx13)) rfl (.c rfl (.c rfl .nil)) (.cons rfl .nil) ?_
 refine .s (f_store (n := 0) (o := 1117) (off := ((0 + (a1).toNat) * 1)) (p := [0 + (a1).toNat]) (c := .d (.arr 1 ((y10).length) ((y10).map eGShard))) (old := .d (eGShard x12)) (z := .d (eGShard y7.2.2)) (c' := .d (.arr 1 ((y10).length) (((y10.set (0 + (a1).toNat) y7.2.2)).map eGShard))) (at_map _ (by simpa using hx13) rfl) (put_map _ (by simpa using hx13)) (by rfl) ty24 (by rfl)) rfl (.c rfl (.c rfl .nil)) (.cons rfl .nil) ?_
 refine .z ?_
 refine .m rfl ?_
 refine .m rfl ?_
 refine .a rfl ?_
 refine .a rfl ?_
 refine .a rfl ?_
 refine .nil (aq_then ?_)
 refine aw_ret ?_
 obtain rfl := Option.some.inj h
 refine aq_freeze [(1117, (.arr 1 ((y10).length) (((y10.set (0 + (a1).toNat) y7.2.2)).map eGShard)))] [(7, .d (eL28 y7.1)), (8, .I (0 : Int)), (6, .d (eL45 (y10.set (0 + (a1).toNat) y7.2.2)))] (.cons rfl .nil) (.keep rfl (.keep rfl (.cons rfl (.whole (.head _)) .nil))) ?_
 refine aq_k hb0 (.k 6 rfl (.k 7 rfl (.k 8 rfl .nil))) (.k 0 rfl (.k 1 rfl (.k 2 rfl .nil))) ?_
 exact aq_fin1 (.tmp rfl (by rfl) (.tmp rfl (by rfl) (.tmp rfl (by rfl) .nil))) rfl ⟨rfl, rfl⟩
def F18_pool_Submit (n : Nat) (a0 : (List GShard)) (a1 : Int) (a2 : GTree) (a3 : GTx) : Option ((List GShard) × (List GTx) × Int) :=
  ((F49_pool_asked n a0 a2).bind fun (y1 : Int) => (if (y1 != (0 : Int)) = true then some ([], [], y1) else ((F27_tx_From n a3).bind fun (y4 : (List Int)) => ((F26_pool_At n y4 ((a0).length : Int)).bind fun (y6 : Int × Int) => ((F33_acct_Get n a2 y4).bind fun (y8 : GAccount × Int) => ((F50_api_Tx_5c5 n a0 y6.1 a1 y8.1 a3).bind fun (y10 : (List GShard) × (List GTx) × Int) => some (y10.1, y10.2.1, y10.2.2)))))))
theorem F18_pool_Submit_ok {n : Nat} {a0 : (List GShard)} {a1 : Int} {a2 : GTree} {a3 : GTx} {r : (List GShard) × (List GTx) × Int} (h : F18_pool_Submit n a0 a1 a2 a3 = some r) :
    ACall Tryz.prog GS 18 [.d (eL45 a0), .I a1, .d (eGTree a2), .d (eGTx a3)] [] (fun r' hp' => r' = .res [.d (eL45 r.1), .d (eL28 r.2.1), .I r.2.2] ∧ hp' = []) := by
 refine acall_of_body mixed Tryz.func18 rfl (by rfl) ?_
 intro C hro hgl hb0
 unfold F18_pool_Submit at h
 refine aw_rs ?_
 refine .n (f_box 5 (by rfl) (by rfl)) rfl (.c rfl .nil) rfl ?_
 refine .n (f_box 6 (by rfl) (by rfl)) rfl (.c rfl .nil) rfl ?_
 refine .n (f_box 7 (by rfl) (by rfl)) rfl (.c rfl .nil) rfl ?_
 refine .a rfl ?_
 refine .a rfl ?_
 refine .a rfl ?_
 refine .nil (aq_then ?_)
 refine aw_seq ?_
 refine aw_rs ?_
 refine .m rfl ?_
 refine .l 6 0 [] (.d (eGTree a2)) (.d (eGTree a2)) ty27 ?_
 obtain ⟨y1, hy2, h⟩ := bind_some h
 refine .v2 (f_callP hgl (by rfl) en49 rfl (by rfl) (by rfl) (by rfl) (F49_pool_asked_ok hy2)) rfl rfl rfl ?_
 refine .a rfl ?_
 refine .z ?_
 refine .m rfl ?_
 refine .b rfl rfl rfl ?_
 refine .nil (aq_then ?_)
 refine aw_cond rfl (fun hc3 => ?_) (fun hc3 => ?_)
 ·replace h := ite_t hc3 h
  refine aw_rs ?_
  refine .m rfl ?_
  refine .a rfl ?_
  refine .a rfl ?_
  refine .a rfl ?_
  refine .nil (aq_then ?_)
  refine aw_ret ?_
  refine aq_then_ret ?_
  obtain rfl := Option.some.inj h
  refine aq_freeze [] [(8, .d (eL45 ([]))), (9, .d (eL28 ([]))), (10, .I y1)] .nil (.cons rfl .nil (.cons rfl .nil (.keep rfl .nil))) ?_
  exact aq_finp hb0 rfl (.tmp rfl (by rfl) (.tmp rfl (by rfl) (.tmp rfl (by rfl) .nil))) (by rfl) rfl ⟨rfl, rfl⟩
 replace h := ite_f hc3 h
 refine aw_skip ?_
 refine aq_then ?_
 refine aw_rs ?_
 refine .l 7 0 [] (.d (eGTx a3)) (.d (eGTx a3)) ty50 ?_
 obtain ⟨y4, hy5, h⟩ := bind_some h
 refine .v1 (f_callP hgl (by rfl) en27 rfl (by rfl) (by rfl) (by rfl) (F27_tx_From_ok hy5)) rfl rfl ?_
 refine .n (f_alloc 12 (by rfl) zr47) rfl .nil rfl ?_
 refine .s (f_store (n := 0) (o := 12) (off := 0) (p := []) (c := .d (eA46 (List.replicate 32 (0 : Int)))) (old := .d (eA46 (List.replicate 32 (0 : Int)))) (z := .d (eA46 y4)) (c' := .d (eA46 y4)) rfl rfl (by rfl) ty47 (by rfl)) rfl (.c rfl (.c rfl .nil)) (.cons rfl .nil) ?_
 refine .z ?_
 refine .l 12 0 [] (.d (eA46 y4)) (.d (eA46 y4)) ty47 ?_
 refine .m rfl ?_
 refine .v1 (f_lenD (n := (a0).length) (by rfl) sl45 rfl (by simp)) rfl rfl ?_
 obtain ⟨y6, hy7, h⟩ := bind_some h
 refine .v2 (f_callP hgl (by rfl) en26 rfl (by rfl) (by rfl) (by rfl) (F26_pool_At_ok hy7)) rfl rfl rfl ?_
 refine .m rfl ?_
 refine .v1 (f_extract (by rfl) rfl) rfl rfl ?_
 refine .v1 (f_extract (by rfl) rfl) rfl rfl ?_
 refine .a rfl ?_
 refine .a rfl ?_
 refine .z ?_
 refine .l 6 0 [] (.d (eGTree a2)) (.d (eGTree a2)) ty27 ?_
 refine .l 12 0 [] (.d (eA46 y4)) (.d (eA46 y4)) ty47 ?_
 obtain ⟨y8, hy9, h⟩ := bind_some h
 refine .v2 (f_callP hgl (by rfl) en33 rfl (by rfl) (by rfl) (by rfl) (F33_acct_Get_ok hy9)) rfl rfl rfl ?_
 refine .m rfl ?_
 refine .v1 (f_extract (by rfl) rfl) rfl rfl ?_
 refine .v1 (f_extract (by rfl) rfl) rfl rfl ?_
 refine .n (f_alloc 15 (by rfl) zr80) rfl .nil rfl ?_
 refine .s (f_store (n := 0) (o := 15) (off := 0) (p := []) (c := .d (eGAccount (⟨(0 : Int), (0 : Int)⟩ : GAccount))) (old := .d (eGAccount (⟨(0 : Int), (0 : Int)⟩ : GAccount))) (z := .d (eGAccount y8.1)) (c' := .d (eGAccount y8.1)) rfl rfl (by rfl) ty80 (by rfl)) rfl (.c rfl (.c rfl .nil)) (.cons rfl .nil) ?_
 refine .a rfl ?_
 refine .z ?_
 refine .m rfl ?_
 refine .m rfl ?_
 refine .v (f_makeFunc (xs := []) (ys := [.ptr 5 0 [], .ptr 15 0 [], .ptr 7 0 []]) (by rfl) rfl rfl (by rfl) (by rfl)) rfl (.c rfl (.c rfl (.c rfl .nil))) .nil ?_
 obtain ⟨y10, hy11, h⟩ := bind_some h
 refine .w (f_callG0 (xs := [.d (eL45 a0), .I y6.1, .fn (.func 51) [] [.ptr 5 0 [], .ptr 15 0 [], .ptr 7 0 []]]) (r := .res [.d (eL45 y10.1), .d (eL28 y10.2.1), .I y10.2.2]) (fun i => bif Nat.beq i 2 then 7 else (bif Nat.beq i 1 then 15 else (bif Nat.beq i 0 then 5 else i))) [] hgl (by rfl) (cal_f en50) rfl (by rfl) (by rfl) (by rfl) (by rfl) (.cons (.same _) (.cons (.same _) (.cons (.same _) .nil))) rfl rfl (F50_api_Tx_5c5_ok hy11)) rfl (.c rfl (.c rfl (.c rfl .nil))) (.cons rfl (.cons rfl (.cons rfl .nil))) .nil ?_
 refine .v1 (f_extract (by rfl) rfl) rfl rfl ?_
 refine .v1 (f_extract (by rfl) rfl) rfl rfl ?_
 refine .v1 (f_extract (by rfl) rfl) rfl rfl ?_
 refine .a rfl ?_
 refine .a rfl ?_
 refine .a rfl ?_
 refine .nil (aq_then ?_)
 refine aw_ret ?_
 obtain rfl := Option.some.inj h
 exact aq_finp hb0 rfl (.tmp rfl (by rfl) (.tmp rfl (by rfl) (.tmp rfl (by rfl) .nil))) (by rfl) rfl ⟨rfl, rfl⟩
def F25_beadrolllaw21_alive (n : Nat)  : Option (Bool) :=
  ((F26_pool_At n ((List.replicate 32 (0 : Int)).set 31 (7 : Int)) (4 : Int)).bind fun (y1 : Int × Int) => ((F60_pool_New n (2 : Int)).bind fun (y3 : (List GShard) × Int) => ((F61_tx_Sign n (⟨(List.replicate 32 (0 : Int)), (List.replicate 32 (0 : Int)), (0 : Int), (0 : Int), (1 : Int), (List.replicate 32 (0 : Int))⟩ : GTx)).bind fun (y5 : GTx) => ((F18_pool_Submit n y3.1 (4 : Int) (⟨[], (0 : Int)⟩ : GTree) y5).bind fun (y7 : (List GShard) × (List GTx) × Int) => (((if (y1.2 == (0 : Int)) = true then (if (y1.1 == (3 : Int)) = true then (if (y3.2 == (0 : Int)) = true then (if (((y3.1).length : Int) == (2 : Int)) = true then (if (y7.2.2 == (0 : Int)) = true then (if (((y7.2.1).length : Int) == (0 : Int)) = true then ((F62_pool_Count n y7.1).bind fun (y15 : Int) => (if (y15 == (1 : Int)) = true then ((F62_pool_Count n y3.1).bind fun (y18 : Int) => some (y18 == (0 : Int))) else some false)) else some false) else some false) else some false) else some false) else some false) else some false)).bind fun (o20 : Bool) => some o20)))))
theorem F25_beadrolllaw21_alive_ok {n : Nat}  {r : Bool} (h : F25_beadrolllaw21_alive n  = some r) :
    ACall Tryz.prog GS 25 [] [] (fun r' hp' => r' = .B r ∧ hp' = []) := by
 refine acall_of_body mixed Tryz.func25 rfl (by rfl) ?_
 intro C hro hgl hb0
 unfold F25_beadrolllaw21_alive at h
 refine aw_rs ?_
 refine .a rfl ?_
 refine .z ?_
 refine .v1 (f_build (xs := [(31, .d (.val (.int .u8 (7 : Int))))]) (z' := .d (eA46 ((List.replicate 32 (0 : Int)).set 31 (7 : Int)))) (by rfl) zr47 ag47 rfl (by rfl) ⟨_, _, _, rfl, pl47_31, rfl, rfl, trivial⟩ (by rfl) (by rfl)) rfl rfl ?_
 refine .n (f_alloc 1 (by rfl) zr47) rfl .nil rfl ?_
 refine .s (f_store (n := 0) (o := 1) (off := 0) (p := []) (c := .d (eA46 (List.replicate 32 (0 : Int)))) (old := .d (eA46 (List.replicate 32 (0 : Int)))) (z := .d (eA46 ((List.replicate 32 (0 : Int)).set 31 (7 : Int)))) (c' := .d (eA46 ((List.replicate 32 (0 : Int)).set 31 (7 : Int)))) rfl rfl (by rfl) ty47 (by rfl)) rfl (.c rfl (.c rfl .nil)) (.cons rfl .nil) ?_
 refine .z ?_
 refine .l 1 0 [] (.d (eA46 ((List.replicate 32 (0 : Int)).set 31 (7 : Int)))) (.d (eA46 ((List.replicate 32 (0 : Int)).set 31 (7 : Int)))) ty47 ?_
 obtain ⟨y1, hy2, h⟩ := bind_some h
 refine .v2 (f_callP hgl (by rfl) en26 rfl (by rfl) (by rfl) (by rfl) (F26_pool_At_ok hy2)) rfl rfl rfl ?_
 refine .m rfl ?_
 refine .v1 (f_extract (by rfl) rfl) rfl rfl ?_
 refine .v1 (f_extract (by rfl) rfl) rfl rfl ?_
 refine .a rfl ?_
 refine .a rfl ?_
 refine .z ?_
 obtain ⟨y3, hy4, h⟩ := bind_some h
 refine .v1 (f_callP hgl (by rfl) en60 rfl (by rfl) (by rfl) (by rfl) (F60_pool_New_ok hy4)) rfl rfl ?_
 refine .m rfl ?_
 refine .v1 (f_extract (by rfl) rfl) rfl rfl ?_
 refine .v1 (f_extract (by rfl) rfl) rfl rfl ?_
 refine .a rfl ?_
 refine .a rfl ?_
 refine .z ?_
 refine .v1 (f_build (xs := [(4, .U (1 : Int))]) (z' := .d (eGTx (⟨(List.replicate 32 (0 : Int)), (List.replicate 32 (0 : Int)), (0 : Int), (0 : Int), (1 : Int), (List.replicate 32 (0 : Int))⟩ : GTx))) (by rfl) zr50 ag50 rfl (by rfl) ⟨_, _, _, rfl, pl50_4, rfl, rfl, trivial⟩ (by rfl) (by rfl)) rfl rfl ?_
 obtain ⟨y5, hy6, h⟩ := bind_some h
 refine .v1 (f_callP hgl (by rfl) en61 rfl (by rfl) (by rfl) (by rfl) (F61_tx_Sign_ok hy6)) rfl rfl ?_
 refine .n (f_alloc 6 (by rfl) zr50) rfl .nil rfl ?_
 refine .s (f_store (n := 0) (o := 6) (off := 0) (p := []) (c := .d (eGTx (⟨(List.replicate 32 (0 : Int)), (List.replicate 32 (0 : Int)), (0 : Int), (0 : Int), (0 : Int), (List.replicate 32 (0 : Int))⟩ : GTx))) (old := .d (eGTx (⟨(List.replicate 32 (0 : Int)), (List.replicate 32 (0 : Int)), (0 : Int), (0 : Int), (0 : Int), (List.replicate 32 (0 : Int))⟩ : GTx))) (z := .d (eGTx y5)) (c' := .d (eGTx y5)) rfl rfl (by rfl) ty50 (by rfl)) rfl (.c rfl (.c rfl .nil)) (.cons rfl .nil) ?_
 refine .z ?_
 refine .m rfl ?_
 refine .v (f_build (xs := []) (z' := .st [.N, .I (0 : Int)]) (by rfl) zrv27 ag27 rfl (by rfl) trivial (by rfl) (by rfl)) rfl .nil .nil ?_
 refine .l 6 0 [] (.d (eGTx y5)) (.d (eGTx y5)) ty50 ?_
 obtain ⟨y7, hy8, h⟩ := bind_some h
 refine .w (f_callG0 (xs := [.d (eL45 y3.1), .I (4 : Int), .st [.N, .I (0 : Int)], .d (eGTx y5)]) (r := .res [.d (eL45 y7.1), .d (eL28 y7.2.1), .I y7.2.2]) (fun i => i) [] hgl (by rfl) (cal_f en18) rfl (by rfl) (by rfl) (by rfl) (by rfl) (.cons (.same _) (.cons (.same _) (.cons (.st (.cons .nil (.cons (.same _) .nil))) (.cons (.same _) .nil)))) rfl rfl (F18_pool_Submit_ok hy8)) rfl (.c rfl (.c rfl (.c rfl (.c rfl .nil)))) .nil .nil ?_
 refine .m rfl ?_
 refine .v1 (f_extract (by rfl) rfl) rfl rfl ?_
 refine .v1 (f_extract (by rfl) rfl) rfl rfl ?_
 refine .v1 (f_extract (by rfl) rfl) rfl rfl ?_
 refine .a rfl ?_
 refine .a rfl ?_
 refine .a rfl ?_
 refine .nil (aq_then ?_)
 refine aw_seq ?_
 obtain ⟨o20, ho21, h⟩ := bind_some h
 refine aw_join (.normal) ⟨[(0, .B o20)], [], []⟩ ?_ ?_
 ·replace h := ho21
  refine aw_r ?_
  refine .m rfl ?_
  refine .b rfl rfl rfl ?_
  refine .m rfl ?_
  rcases Bool.eq_false_or_eq_true (y1.2 == (0 : Int)) with hc9 | hc9
  ·replace h := ite_t hc9 h
   refine .g1 (f_move (by rfl)) rfl rfl rfl hc9 rfl ?_
   refine .g2 (f_binI (by rfl) rfl (by rfl)) rfl rfl rfl hc9 rfl rfl ?_
   refine .v2 (f_pick_true (by rfl) hc9) rfl rfl rfl ?_
   refine .m rfl ?_
   rcases Bool.eq_false_or_eq_true (y1.1 == (3 : Int)) with hc10 | hc10
   ·replace h := ite_t hc10 h
    refine .g1 (f_move (by rfl)) rfl rfl rfl hc10 rfl ?_
    refine .g2 (f_binI (by rfl) rfl (by rfl)) rfl rfl rfl hc10 rfl rfl ?_
    refine .v2 (f_pick_true (by rfl) hc10) rfl rfl rfl ?_
    refine .m rfl ?_
    rcases Bool.eq_false_or_eq_true (y3.2 == (0 : Int)) with hc11 | hc11
    ·replace h := ite_t hc11 h
     refine .g1 (f_move (by rfl)) rfl rfl rfl hc11 rfl ?_
     refine .g1 (f_lenD (n := (y3.1).length) (by rfl) sl45 rfl (by simp)) rfl rfl rfl hc11 rfl ?_
     refine .g2 (f_binI (by rfl) rfl (by rfl)) rfl rfl rfl hc11 rfl rfl ?_
     refine .v2 (f_pick_true (by rfl) hc11) rfl rfl rfl ?_
     refine .m rfl ?_
     rcases Bool.eq_false_or_eq_true (((y3.1).length : Int) == (2 : Int)) with hc12 | hc12
     ·replace h := ite_t hc12 h
      refine .g1 (f_move (by rfl)) rfl rfl rfl hc12 rfl ?_
      refine .g2 (f_binI (by rfl) rfl (by rfl)) rfl rfl rfl hc12 rfl rfl ?_
      refine .v2 (f_pick_true (by rfl) hc12) rfl rfl rfl ?_
      refine .m rfl ?_
      rcases Bool.eq_false_or_eq_true (y7.2.2 == (0 : Int)) with hc13 | hc13
      ·replace h := ite_t hc13 h
       refine .g1 (f_move (by rfl)) rfl rfl rfl hc13 rfl ?_
       refine .g1 (f_lenD (n := (y7.2.1).length) (by rfl) sl28 rfl (by simp)) rfl rfl rfl hc13 rfl ?_
       refine .g2 (f_binI (by rfl) rfl (by rfl)) rfl rfl rfl hc13 rfl rfl ?_
       refine .v2 (f_pick_true (by rfl) hc13) rfl rfl rfl ?_
       refine .m rfl ?_
       rcases Bool.eq_false_or_eq_true (((y7.2.1).length : Int) == (0 : Int)) with hc14 | hc14
       ·replace h := ite_t hc14 h
        refine .g1 (f_move (by rfl)) rfl rfl rfl hc14 rfl ?_
        obtain ⟨y15, hy16, h⟩ := bind_some h
        refine .g1 (f_callP hgl (by rfl) en62 rfl (by rfl) (by rfl) (by rfl) (F62_pool_Count_ok hy16)) rfl rfl rfl hc14 rfl ?_
        refine .g2 (f_binI (by rfl) rfl (by rfl)) rfl rfl rfl hc14 rfl rfl ?_
        refine .v2 (f_pick_true (by rfl) hc14) rfl rfl rfl ?_
        refine .m rfl ?_
        rcases Bool.eq_false_or_eq_true (y15 == (1 : Int)) with hc17 | hc17
        ·replace h := ite_t hc17 h
         refine .g1 (f_move (by rfl)) rfl rfl rfl hc17 rfl ?_
         obtain ⟨y18, hy19, h⟩ := bind_some h
         refine .g1 (f_callP hgl (by rfl) en62 rfl (by rfl) (by rfl) (by rfl) (F62_pool_Count_ok hy19)) rfl rfl rfl hc17 rfl ?_
         refine .g2 (f_binI (by rfl) rfl (by rfl)) rfl rfl rfl hc17 rfl rfl ?_
         refine .v2 (f_pick_true (by rfl) hc17) rfl rfl rfl ?_
         refine .a rfl ?_
         refine .nil ?_
         obtain rfl := Option.some.inj h
         refine aq_k hb0 (.k 0 rfl .nil) .nil ?_
         exact jq
        replace h := ite_f hc17 h
        refine .q rfl rfl rfl hc17 rfl ?_
        refine .q rfl rfl rfl hc17 rfl ?_
        refine .q rfl rfl rfl hc17 rfl ?_
        refine .v2 (f_pick_false (by rfl) hc17) rfl rfl rfl ?_
        refine .a rfl ?_
        refine .nil ?_
        obtain rfl := Option.some.inj h
        refine aq_k hb0 (.k 0 rfl .nil) .nil ?_
        exact jq
       replace h := ite_f hc14 h
       refine .q rfl rfl rfl hc14 rfl ?_
       refine .q rfl rfl rfl hc14 rfl ?_
       refine .q rfl rfl rfl hc14 rfl ?_
       refine .v2 (f_pick_false (by rfl) hc14) rfl rfl rfl ?_
       refine .m rfl ?_
       refine .q rfl rfl rfl rfl rfl ?_
       refine .q rfl rfl rfl rfl rfl ?_
       refine .q rfl rfl rfl rfl rfl ?_
       refine .v2 (f_pick_false (by rfl) rfl) rfl rfl rfl ?_
       refine .a rfl ?_
       refine .nil ?_
       obtain rfl := Option.some.inj h
       refine aq_k hb0 (.k 0 rfl .nil) .nil ?_
       exact jq
      replace h := ite_f hc13 h
      refine .q rfl rfl rfl hc13 rfl ?_
      refine .q rfl rfl rfl hc13 rfl ?_
      refine .q rfl rfl rfl hc13 rfl ?_
      refine .v2 (f_pick_false (by rfl) hc13) rfl rfl rfl ?_
      refine .m rfl ?_
      refine .q rfl rfl rfl rfl rfl ?_
      refine .q rfl rfl rfl rfl rfl ?_
      refine .q rfl rfl rfl rfl rfl ?_
      refine .v2 (f_pick_false (by rfl) rfl) rfl rfl rfl ?_
      refine .m rfl ?_
      refine .q rfl rfl rfl rfl rfl ?_
      refine .q rfl rfl rfl rfl rfl ?_
      refine .q rfl rfl rfl rfl rfl ?_
      refine .v2 (f_pick_false (by rfl) rfl) rfl rfl rfl ?_
      refine .a rfl ?_
      refine .nil ?_
      obtain rfl := Option.some.inj h
      refine aq_k hb0 (.k 0 rfl .nil) .nil ?_
      exact jq
     replace h := ite_f hc12 h
     refine .q rfl rfl rfl hc12 rfl ?_
     refine .q rfl rfl rfl hc12 rfl ?_
     refine .v2 (f_pick_false (by rfl) hc12) rfl rfl rfl ?_
     refine .m rfl ?_
     refine .q rfl rfl rfl rfl rfl ?_
     refine .q rfl rfl rfl rfl rfl ?_
     refine .q rfl rfl rfl rfl rfl ?_
     refine .v2 (f_pick_false (by rfl) rfl) rfl rfl rfl ?_
     refine .m rfl ?_
     refine .q rfl rfl rfl rfl rfl ?_
     refine .q rfl rfl rfl rfl rfl ?_
     refine .q rfl rfl rfl rfl rfl ?_
     refine .v2 (f_pick_false (by rfl) rfl) rfl rfl rfl ?_
     refine .m rfl ?_
     refine .q rfl rfl rfl rfl rfl ?_
     refine .q rfl rfl rfl rfl rfl ?_
     refine .q rfl rfl rfl rfl rfl ?_
     refine .v2 (f_pick_false (by rfl) rfl) rfl rfl rfl ?_
     refine .a rfl ?_
     refine .nil ?_
     obtain rfl := Option.some.inj h
     refine aq_k hb0 (.k 0 rfl .nil) .nil ?_
     exact jq
    replace h := ite_f hc11 h
    refine .q rfl rfl rfl hc11 rfl ?_
    refine .q rfl rfl rfl hc11 rfl ?_
    refine .q rfl rfl rfl hc11 rfl ?_
    refine .v2 (f_pick_false (by rfl) hc11) rfl rfl rfl ?_
    refine .m rfl ?_
    refine .q rfl rfl rfl rfl rfl ?_
    refine .q rfl rfl rfl rfl rfl ?_
    refine .v2 (f_pick_false (by rfl) rfl) rfl rfl rfl ?_
    refine .m rfl ?_
    refine .q rfl rfl rfl rfl rfl ?_
    refine .q rfl rfl rfl rfl rfl ?_
    refine .q rfl rfl rfl rfl rfl ?_
    refine .v2 (f_pick_false (by rfl) rfl) rfl rfl rfl ?_
    refine .m rfl ?_
    refine .q rfl rfl rfl rfl rfl ?_
    refine .q rfl rfl rfl rfl rfl ?_
    refine .q rfl rfl rfl rfl rfl ?_
    refine .v2 (f_pick_false (by rfl) rfl) rfl rfl rfl ?_
    refine .m rfl ?_
    refine .q rfl rfl rfl rfl rfl ?_
    refine .q rfl rfl rfl rfl rfl ?_
    refine .q rfl rfl rfl rfl rfl ?_
    refine .v2 (f_pick_false (by rfl) rfl) rfl rfl rfl ?_
    refine .a rfl ?_
    refine .nil ?_
    obtain rfl := Option.some.inj h
    refine aq_k hb0 (.k 0 rfl .nil) .nil ?_
    exact jq
   replace h := ite_f hc10 h
   refine .q rfl rfl rfl hc10 rfl ?_
   refine .q rfl rfl rfl hc10 rfl ?_
   refine .v2 (f_pick_false (by rfl) hc10) rfl rfl rfl ?_
   refine .m rfl ?_
   refine .q rfl rfl rfl rfl rfl ?_
   refine .q rfl rfl rfl rfl rfl ?_
   refine .q rfl rfl rfl rfl rfl ?_
   refine .v2 (f_pick_false (by rfl) rfl) rfl rfl rfl ?_
   refine .m rfl ?_
   refine .q rfl rfl rfl rfl rfl ?_
   refine .q rfl rfl rfl rfl rfl ?_
   refine .v2 (f_pick_false (by rfl) rfl) rfl rfl rfl ?_
   refine .m rfl ?_
   refine .q rfl rfl rfl rfl rfl ?_
   refine .q rfl rfl rfl rfl rfl ?_
   refine .q rfl rfl rfl rfl rfl ?_
   refine .v2 (f_pick_false (by rfl) rfl) rfl rfl rfl ?_
   refine .m rfl ?_
   refine .q rfl rfl rfl rfl rfl ?_
   refine .q rfl rfl rfl rfl rfl ?_
   refine .q rfl rfl rfl rfl rfl ?_
   refine .v2 (f_pick_false (by rfl) rfl) rfl rfl rfl ?_
   refine .m rfl ?_
   refine .q rfl rfl rfl rfl rfl ?_
   refine .q rfl rfl rfl rfl rfl ?_
   refine .q rfl rfl rfl rfl rfl ?_
   refine .v2 (f_pick_false (by rfl) rfl) rfl rfl rfl ?_
   refine .a rfl ?_
   refine .nil ?_
   obtain rfl := Option.some.inj h
   refine aq_k hb0 (.k 0 rfl .nil) .nil ?_
   exact jq
  replace h := ite_f hc9 h
  refine .q rfl rfl rfl hc9 rfl ?_
  refine .q rfl rfl rfl hc9 rfl ?_
  refine .v2 (f_pick_false (by rfl) hc9) rfl rfl rfl ?_
  refine .m rfl ?_
  refine .q rfl rfl rfl rfl rfl ?_
  refine .q rfl rfl rfl rfl rfl ?_
  refine .v2 (f_pick_false (by rfl) rfl) rfl rfl rfl ?_
  refine .m rfl ?_
  refine .q rfl rfl rfl rfl rfl ?_
  refine .q rfl rfl rfl rfl rfl ?_
  refine .q rfl rfl rfl rfl rfl ?_
  refine .v2 (f_pick_false (by rfl) rfl) rfl rfl rfl ?_
  refine .m rfl ?_
  refine .q rfl rfl rfl rfl rfl ?_
  refine .q rfl rfl rfl rfl rfl ?_
  refine .v2 (f_pick_false (by rfl) rfl) rfl rfl rfl ?_
  refine .m rfl ?_
  refine .q rfl rfl rfl rfl rfl ?_
  refine .q rfl rfl rfl rfl rfl ?_
  refine .q rfl rfl rfl rfl rfl ?_
  refine .v2 (f_pick_false (by rfl) rfl) rfl rfl rfl ?_
  refine .m rfl ?_
  refine .q rfl rfl rfl rfl rfl ?_
  refine .q rfl rfl rfl rfl rfl ?_
  refine .q rfl rfl rfl rfl rfl ?_
  refine .v2 (f_pick_false (by rfl) rfl) rfl rfl rfl ?_
  refine .m rfl ?_
  refine .q rfl rfl rfl rfl rfl ?_
  refine .q rfl rfl rfl rfl rfl ?_
  refine .q rfl rfl rfl rfl rfl ?_
  refine .v2 (f_pick_false (by rfl) rfl) rfl rfl rfl ?_
  refine .a rfl ?_
  refine .nil ?_
  obtain rfl := Option.some.inj h
  refine aq_k hb0 (.k 0 rfl .nil) .nil ?_
  exact jq
 refine aq_then ?_
 refine aw_ret ?_
 obtain rfl := Option.some.inj h
 exact aq_finp hb0 rfl (.tmp rfl (by rfl) .nil) (by rfl) rfl ⟨rfl, rfl⟩
def F88_api_Tx_78c_s0 (n : Nat) (a0 : (List GTx)) (z0_0 : Int) : Option ((Int) ⊕ ((Unit) ⊕ (Int))) :=
  (if (decide (z0_0 < ((a0).length : Int))) = true then ((rd a0 z0_0).bind fun (x2 : GTx) => ((F42_shard_Back_1 n x2).bind fun (y5 : Bool) => (if y5 = true then some (.inr (.inr z0_0)) else some (.inl (IntKind.i64.wrap (z0_0 + (1 : Int))))))) else some (.inr (.inl ())))
def F88_api_Tx_78c (n : Nat) (a0 : (List GTx)) : Option (Int) :=
  ((loopF (fun (z : Int) => F88_api_Tx_78c_s0 n a0 z) n (0 : Int)).bind (Sum.elim (fun (j8 : Unit) => some (-1 : Int)) (fun (j8 : Int) => some j8)))
theorem F88_api_Tx_78c_ok {n : Nat} {a0 : (List GTx)} {r : Int} (h : F88_api_Tx_78c n a0 = some r) :
    ACall Tryz.prog GS 88 [.d (eL28 a0), .fn (.func 42) [] []] [] (fun r' hp' => r' = .I r ∧ hp' = []) := by
 refine acall_of_body mixed Tryz.func88 rfl (by rfl) ?_
 intro C hro hgl hb0
 unfold F88_api_Tx_78c at h
 refine aw_rs ?_
 refine .a rfl ?_
 refine .nil (aq_then ?_)
 refine aw_seq ?_
 refine aw_rs ?_
 refine .m rfl ?_
 refine .v1 (f_lenD (n := (a0).length) (by rfl) sl28 rfl (by simp)) rfl rfl ?_
 refine .m rfl ?_
 refine .nil (aq_then ?_)
 refine aw_block ?_
 refine aw_k hb0 (.k 0 rfl (.k 1 rfl (.k 7 rfl (.k 8 rfl .nil)))) .nil ?_
 obtain ⟨o8, ho9, h⟩ := bind_some h
 refine aw_loopX (σ := Int) (fun z => ⟨[(0, .d (eL28 a0)), (1, .fn (.func 42) [] []), (7, .I ((a0).length : Int)), (8, .I z)], [], []⟩) (Sum.elim (fun _ => .exit 0) (fun _ => .ret)) (Sum.elim (fun j8 => ⟨[], [], []⟩) (fun j8 => ⟨[(4, .I j8)], [], []⟩)) ho9 (by intro b; rcases b with _ | _ <;> rfl) ?_ ?_
 ·clear h ho9
  intro z0_0 o h
  change F88_api_Tx_78c_s0 n a0 z0_0 = some o at h
  unfold F88_api_Tx_78c_s0 at h
  show AW _ _ _ ⟨[(0, .d (eL28 a0)), (1, .fn (.func 42) [] []), (7, .I ((a0).length : Int)), (8, .I z0_0)], [], []⟩
  refine aw_rs ?_
  refine .b rfl rfl rfl ?_
  refine .nil (aq_then ?_)
  refine aw_seq ?_
  refine aw_cond rfl (fun hc1 => ?_) (fun hc1 => ?_)
  ·replace h := ite_t hc1 h
   refine aw_skip ?_
   refine aq_then ?_
   refine aw_seq ?_
   refine aw_block ?_
   refine aw_rs ?_
   refine .m rfl ?_
   refine .a rfl ?_
   refine .z ?_
   refine .m rfl ?_
   refine .m rfl ?_
   refine .m rfl ?_
   obtain ⟨x2, hx3, h⟩ := bind_some h
   obtain ⟨hx4, hx3⟩ := rd_some hx3
   refine .v2 (f_indexS (by rfl) sl28 hx4 (rd_map _ hx3)) rfl rfl rfl ?_
   refine .v1 (f_loadR (z := (eGTx x2)) (by rfl) ty50) rfl rfl ?_
   obtain ⟨y5, hy6, h⟩ := bind_some h
   refine .w (f_callG0 (xs := [.d (eGTx x2)]) (r := .B y5) (fun i => i) [] hgl (by rfl) (cal_v (first := []) (caps := []) en42) rfl (by rfl) (by rfl) (by rfl) (by rfl) (.cons (.same _) .nil) rfl rfl (F42_shard_Back_1_ok hy6)) rfl (.c rfl (.c rfl .nil)) .nil .nil ?_
   refine .nil (aq_then ?_)
   refine aw_cond rfl (fun hc7 => ?_) (fun hc7 => ?_)
   ·replace h := ite_t hc7 h
    refine aw_rs ?_
    refine .m rfl ?_
    refine .a rfl ?_
    refine .nil (aq_then ?_)
    refine aw_ret ?_
    refine aq_block_ret ?_
    refine aq_then_ret ?_
    obtain rfl := Option.some.inj h
    refine aq_k hb0 (.k 4 rfl .nil) .nil ?_
    exact jq
   replace h := ite_f hc7 h
   refine aw_skip ?_
   refine aq_block ?_
   refine aq_then ?_
   refine aw_r ?_
   refine .b rfl rfl rfl ?_
   refine .m rfl ?_
   refine .nil ?_
   obtain rfl := Option.some.inj h
   refine aq_k hb0 (.k 0 rfl (.k 1 rfl (.k 7 rfl (.k 8 rfl .nil)))) .nil ?_
   exact jq
  replace h := ite_f hc1 h
  refine aw_exit ?_
  refine aq_then_exit ?_
  obtain rfl := Option.some.inj h
  refine aq_k hb0 .nil .nil ?_
  exact jq
 rcases o8 with j8 | j8
 ·replace h := elim_l h
  refine aq_block_exit ?_
  refine aq_then ?_
  refine aw_rs ?_
  refine .a rfl ?_
  refine .nil (aq_then ?_)
  refine aw_ret ?_
  obtain rfl := Option.some.inj h
  exact aq_finp hb0 rfl (.tmp rfl (by rfl) .nil) (by rfl) rfl ⟨rfl, rfl⟩
 replace h := elim_r h
 refine aq_block_ret ?_
 refine aq_then_ret ?_
 obtain rfl := Option.some.inj h
 exact aq_finp hb0 rfl (.tmp rfl (by rfl) .nil) (by rfl) rfl ⟨rfl, rfl⟩
def F41_api_Tx_537 (n : Nat) (a0 : (List GTx)) : Option (Bool) :=
  ((F88_api_Tx_78c n a0).bind fun (y1 : Int) => some (decide (y1 ≥ (0 : Int))))
theorem F41_api_Tx_537_ok {n : Nat} {a0 : (List GTx)} {r : Bool} (h : F41_api_Tx_537 n a0 = some r) :
    ACall Tryz.prog GS 41 [.d (eL28 a0), .fn (.func 42) [] []] [] (fun r' hp' => r' = .B r ∧ hp' = []) := by
 refine acall_of_body mixed Tryz.func41 rfl (by rfl) ?_
 intro C hro hgl hb0
 unfold F41_api_Tx_537 at h
 refine aw_rs ?_
 refine .a rfl ?_
 refine .z ?_
 refine .m rfl ?_
 refine .m rfl ?_
 obtain ⟨y1, hy2, h⟩ := bind_some h
 refine .v2 (f_callP hgl (by rfl) en88 rfl (by rfl) (by rfl) (by rfl) (F88_api_Tx_78c_ok hy2)) rfl rfl rfl ?_
 refine .b rfl rfl rfl ?_
 refine .a rfl ?_
 refine .nil (aq_then ?_)
 refine aw_ret ?_
 obtain rfl := Option.some.inj h
 exact aq_finp hb0 rfl (.tmp rfl (by rfl) .nil) (by rfl) rfl ⟨rfl, rfl⟩
def F11_shard_Back_s0 (n : Nat) (a1 : GTree) (a2 : (List GTx)) (z0_0 : Int) (z0_1 : List GLine) : Option ((Int × List GLine) ⊕ ((List GLine) ⊕ (Int))) :=
  (if (decide (z0_0 < ((a2).length : Int))) = true then ((((rd a2 z0_0).bind fun (x14 : GTx) => ((F27_tx_From n x14).bind fun (y17 : (List Int)) => ((F33_acct_Get n a1 y17).bind fun (y19 : GAccount × Int) => (if (decide (x14.Nonce < y19.1.Nonce)) = true then some (.inl z0_1) else ((F45_shard_part_line_4f5 n y17 z0_1).bind fun (y22 : GLine) => ((F44_queue_Put n y22 x14).bind fun (y24 : GLine × (List GTx) × Int) => (if (y24.2.2 == (0 : Int)) = true then ((F36_shard_part_set_08b n y24.1 z0_1).bind fun (y27 : List GLine) => some (.inl y27)) else (if (y24.2.2 == (9 : Int)) = true then some (.inr y24.2.2) else some (.inl z0_1)))))))))).bind (Sum.elim (fun (j30 : List GLine) => some (.inl ((IntKind.i64.wrap (z0_0 + (1 : Int))), j30))) (fun (j30 : Int) => some (.inr (.inr j30))))) else some (.inr (.inl z0_1)))
def F11_shard_Back (n : Nat) (a0 : GShard) (a1 : GTree) (a2 : (List GTx)) : Option (GShard × Int) :=
  ((((F30_shard_Check n a0).bind fun (y1 : Int) => (if (y1 != (0 : Int)) = true then some true else ((F31_acct_Check n a1).bind fun (y4 : Int) => some (y4 != (0 : Int)))))).bind fun (o6 : Bool) => (if o6 = true then some ((⟨[]⟩ : GShard), (8 : Int)) else ((F41_api_Tx_537 n a2).bind fun (y8 : Bool) => (if y8 = true then some ((⟨[]⟩ : GShard), (110 : Int)) else ((F32_shard_Twin n a0).bind fun (y11 : List GLine) => ((loopF (fun (z : Int × List GLine) => F11_shard_Back_s0 n a1 a2 z.1 z.2) n ((0 : Int), y11)).bind (Sum.elim (fun (j32 : List GLine) => some ((⟨j32⟩ : GShard), (0 : Int))) (fun (j32 : Int) => some ((⟨[]⟩ : GShard), j32)))))))))
theorem F11_shard_Back_ok {n : Nat} {a0 : GShard} {a1 : GTree} {a2 : (List GTx)} {r : GShard × Int} (h : F11_shard_Back n a0 a1 a2 = some r) :
    ACall Tryz.prog GS 11 [.d (eGShard a0), .d (eGTree a1), .d (eL28 a2)] [] (fun r' hp' => r' = .res [.d (eGShard r.1), .I r.2] ∧ hp' = []) := by
 refine acall_of_body mixed Tryz.func11 rfl (by rfl) ?_
 intro C hro hgl hb0
 unfold F11_shard_Back at h
 refine aw_rs ?_
 refine .n (f_box 3 (by rfl) (by rfl)) rfl (.c rfl .nil) rfl ?_
 refine .n (f_box 4 (by rfl) (by rfl)) rfl (.c rfl .nil) rfl ?_
 refine .n (f_alloc 6 (by rfl) zrv24) rfl .nil rfl ?_
 refine .a rfl ?_
 refine .nil (aq_then ?_)
 refine aw_seq ?_
 refine aw_block ?_
 refine aw_seq ?_
 obtain ⟨o6, ho34, h⟩ := bind_some h
 refine aw_join (.normal) ⟨[(2, .d (eL28 a2)), (3, .ptr 3 0 []), (4, .ptr 4 0 []), (6, .ptr 6 0 []), (17, .B o6)], [(3, .av (.d (eGShard a0))), (4, .av (.d (eGTree a1))), (6, .av (.st [.N]))], []⟩ ?_ ?_
 ·replace h := ho34
  refine aw_r ?_
  refine .l 3 0 [] (.d (eGShard a0)) (.d (eGShard a0)) ty24 ?_
  obtain ⟨y1, hy2, h⟩ := bind_some h
  refine .v1 (f_callP hgl (by rfl) en30 rfl (by rfl) (by rfl) (by rfl) (F30_shard_Check_ok hy2)) rfl rfl ?_
  refine .b rfl rfl rfl ?_
  refine .m rfl ?_
  rcases Bool.eq_false_or_eq_true (y1 != (0 : Int)) with hc3 | hc3
  ·replace h := ite_t hc3 h
   refine .q rfl rfl rfl hc3 rfl ?_
   refine .q rfl rfl rfl hc3 rfl ?_
   refine .q rfl rfl rfl hc3 rfl ?_
   refine .v2 (f_pick_true (by rfl) hc3) rfl rfl rfl ?_
   refine .a rfl ?_
   refine .nil ?_
   obtain rfl := Option.some.inj h
   refine aq_k hb0 (.k 2 rfl (.k 3 rfl (.k 4 rfl (.k 6 rfl (.k 17 rfl .nil))))) (.k 3 rfl (.k 4 rfl (.k 6 rfl .nil))) ?_
   exact jq
  replace h := ite_f hc3 h
  refine .gv (f_load (n := 0) (o := 4) (off := 0) (p := []) (c := .d (eGTree a1)) (z := .d (eGTree a1)) (by rfl) rfl ty27 (by rfl)) rfl rfl rfl hc3 (.c rfl .nil) (.cons rfl .nil) ?_
  obtain ⟨y4, hy5, h⟩ := bind_some h
  refine .g1 (f_callP hgl (by rfl) en31 rfl (by rfl) (by rfl) (by rfl) (F31_acct_Check_ok hy5)) rfl rfl rfl hc3 rfl ?_
  refine .g2 (f_binI (by rfl) rfl (by rfl)) rfl rfl rfl hc3 rfl rfl ?_
  refine .v2 (f_pick_false (by rfl) hc3) rfl rfl rfl ?_
  refine .a rfl ?_
  refine .nil ?_
  obtain rfl := Option.some.inj h
  refine aq_k hb0 (.k 2 rfl (.k 3 rfl (.k 4 rfl (.k 6 rfl (.k 17 rfl .nil))))) (.k 3 rfl (.k 4 rfl (.k 6 rfl .nil))) ?_
  exact jq
 refine aq_then ?_
 refine aw_cond rfl (fun hc7 => ?_) (fun hc7 => ?_)
 ·replace h := ite_t hc7 h
  refine aw_rs ?_
  refine .v (f_build (xs := []) (z' := .st [.N]) (by rfl) zrv24 ag24 rfl (by rfl) trivial (by rfl) (by rfl)) rfl .nil .nil ?_
  refine .s (f_store (n := 0) (o := 6) (off := 0) (p := []) (c := .st [.N]) (old := .st [.N]) (z := .st [.N]) (c' := .st [.N]) rfl rfl (by rfl) ty24 (by rfl)) rfl (.c rfl (.c rfl .nil)) (.cons rfl .nil) ?_
  refine .a rfl ?_
  refine .nil (aq_then ?_)
  refine aw_ret ?_
  refine aq_block_ret ?_
  refine aq_then_ret ?_
  obtain rfl := Option.some.inj h
  refine aq_freezeH [] [(6, .ptr 6 0 []), (7, .I (8 : Int))] [(6, .av (.d (eGShard (⟨[]⟩ : GShard))))] .nil (.keep rfl (.keep rfl .nil)) (.cons rfl (by rfl) (.st (.cons .nil .nil)) .nil) ?_
  exact aq_finp hb0 rfl (.cell rfl rfl ty24 (by rfl) (.tmp rfl (by rfl) .nil)) (by rfl) rfl ⟨rfl, rfl⟩
 replace h := ite_f hc7 h
 refine aw_rs ?_
 refine .m rfl ?_
 obtain ⟨y8, hy9, h⟩ := bind_some h
 refine .v2 (f_callP hgl (by rfl) en41 rfl (by rfl) (by rfl) (by rfl) (F41_api_Tx_537_ok hy9)) rfl rfl rfl ?_
 refine .a rfl ?_
 refine .nil (aq_then ?_)
 refine aw_cond rfl (fun hc10 => ?_) (fun hc10 => ?_)
 ·replace h := ite_t hc10 h
  refine aw_rs ?_
  refine .v (f_build (xs := []) (z' := .st [.N]) (by rfl) zrv24 ag24 rfl (by rfl) trivial (by rfl) (by rfl)) rfl .nil .nil ?_
  refine .s (f_store (n := 0) (o := 6) (off := 0) (p := []) (c := .st [.N]) (old := .st [.N]) (z := .st [.N]) (c' := .st [.N]) rfl rfl (by rfl) ty24 (by rfl)) rfl (.c rfl (.c rfl .nil)) (.cons rfl .nil) ?_
  refine .a rfl ?_
  refine .nil (aq_then ?_)
  refine aw_ret ?_
  refine aq_block_ret ?_
  refine aq_then_ret ?_
  obtain rfl := Option.some.inj h
  refine aq_freezeH [] [(6, .ptr 6 0 []), (7, .I (110 : Int))] [(6, .av (.d (eGShard (⟨[]⟩ : GShard))))] .nil (.keep rfl (.keep rfl .nil)) (.cons rfl (by rfl) (.st (.cons .nil .nil)) .nil) ?_
  exact aq_finp hb0 rfl (.cell rfl rfl ty24 (by rfl) (.tmp rfl (by rfl) .nil)) (by rfl) rfl ⟨rfl, rfl⟩
 replace h := ite_f hc10 h
 refine aw_skip ?_
 refine aq_block ?_
 refine aq_then ?_
 refine aw_rs ?_
 refine .l 3 0 [] (.d (eGShard a0)) (.d (eGShard a0)) ty24 ?_
 obtain ⟨y11, hy12, h⟩ := bind_some h
 refine .w (f_callG (xs := [.d (eGShard a0)]) (r := .st [.slc 1135 0 ((y11).length) 33]) (hw := [(1134, .av (.st [.slc 1135 0 ((y11).length) 33])), (1135, .av (.d (.arr 33 ((y11).length) ((y11).map eGLine))))]) (fun i => bif Nat.beq i 1076 then 1135 else (bif Nat.beq i 2 then 1134 else i)) [] hgl (by rfl) (cal_f en32) rfl (by rfl) (by rfl) (by rfl) (by rfl) (.cons (.same _) .nil) rfl rfl rfl rfl (F32_shard_Twin_ok hy12)) rfl (.c rfl .nil) .nil (.cons rfl (.cons rfl .nil)) ?_
 refine .v1 (f_build (xs := [(0, .st [.slc 1135 0 ((y11).length) 33])]) (z' := .st [.st [.slc 1135 0 ((y11).length) 33]]) (by rfl) zrv78 ag78 rfl (by rfl) ⟨_, _, _, rfl, pl78_0, rfl, rfl, trivial⟩ (by rfl) (by rfl)) rfl rfl ?_
 refine .n (f_box 34 (by rfl) (by rfl)) rfl (.c rfl .nil) rfl ?_
 refine .a rfl ?_
 refine .nil (aq_then ?_)
 refine aw_seq ?_
 refine aw_rs ?_
 refine .m rfl ?_
 refine .v1 (f_lenD (n := (a2).length) (by rfl) sl28 rfl (by simp)) rfl rfl ?_
 refine .m rfl ?_
 refine .nil (aq_then ?_)
 refine aw_block ?_
 refine aw_k hb0 (.k 4 rfl (.k 6 rfl (.k 8 rfl (.k 35 rfl (.k 36 rfl (.k 37 rfl .nil)))))) (.k 4 rfl (.k 6 rfl (.k 34 rfl (.k 1135 rfl .nil)))) ?_
 obtain ⟨o32, ho33, h⟩ := bind_some h
 refine aw_loopX (σ := Int × List GLine) (fun z => ⟨[(4, .ptr 4 0 []), (6, .ptr 6 0 []), (8, .ptr 34 0 []), (35, .d (eL28 a2)), (36, .I ((a2).length : Int)), (37, .I z.1)], [(4, .av (.d (eGTree a1))), (6, .av (.st [.N])), (34, .av (.st [.st [.slc 1135 0 ((z.2).length) 33]])), (1135, .av (.d (.arr 33 ((z.2).length) ((z.2).map eGLine))))], []⟩) (Sum.elim (fun _ => .exit 1) (fun _ => .ret)) (Sum.elim (fun j32 => ⟨[(6, .ptr 6 0 []), (8, .ptr 34 0 [])], [(6, .av (.st [.N])), (34, .av (.st [.st [.slc 1135 0 ((j32).length) 33]])), (1135, .av (.d (.arr 33 ((j32).length) ((j32).map eGLine))))], []⟩) (fun j32 => ⟨[(6, .ptr 6 0 []), (7, .I j32)], [(6, .av (.st [.N]))], []⟩)) ho33 (by intro b; rcases b with _ | _ <;> rfl) ?_ ?_
 ·clear h ho33
  rintro ⟨z0_0, z0_1⟩ o h
  change F11_shard_Back_s0 n a1 a2 z0_0 z0_1 = some o at h
  unfold F11_shard_Back_s0 at h
  show AW _ _ _ ⟨[(4, .ptr 4 0 []), (6, .ptr 6 0 []), (8, .ptr 34 0 []), (35, .d (eL28 a2)), (36, .I ((a2).length : Int)), (37, .I z0_0)], [(4, .av (.d (eGTree a1))), (6, .av (.st [.N])), (34, .av (.st [.st [.slc 1135 0 ((z0_1).length) 33]])), (1135, .av (.d (.arr 33 ((z0_1).length) ((z0_1).map eGLine))))], []⟩
  refine aw_rs ?_
  refine .b rfl rfl rfl ?_
  refine .nil (aq_then ?_)
  refine aw_seq ?_
  refine aw_cond rfl (fun hc13 => ?_) (fun hc13 => ?_)
  ·replace h := ite_t hc13 h
   refine aw_skip ?_
   refine aq_then ?_
   refine aw_seq ?_
   obtain ⟨o30, ho31, h⟩ := bind_some h
   refine aw_join ((Sum.elim (fun _ => .normal) (fun _ => .ret)) o30) ((Sum.elim (fun j30 => ⟨[(4, .ptr 4 0 []), (6, .ptr 6 0 []), (8, .ptr 34 0 []), (35, .d (eL28 a2)), (36, .I ((a2).length : Int)), (37, .I z0_0)], [(4, .av (.d (eGTree a1))), (6, .av (.st [.N])), (34, .av (.st [.st [.slc 1135 0 ((j30).length) 33]])), (1135, .av (.d (.arr 33 ((j30).length) ((j30).map eGLine))))], []⟩) (fun j30 => ⟨[(6, .ptr 6 0 []), (7, .I j30)], [(6, .av (.st [.N]))], []⟩)) o30) ?_ ?_
   ·replace h := ho31
    refine aw_block ?_
    refine aw_rs ?_
    obtain ⟨x14, hx15, h⟩ := bind_some h
    obtain ⟨hx16, hx15⟩ := rd_some hx15
    refine .v2 (f_indexS (by rfl) sl28 hx16 (rd_map _ hx15)) rfl rfl rfl ?_
    refine .v1 (f_loadR (z := (eGTx x14)) (by rfl) ty50) rfl rfl ?_
    refine .n (f_alloc 10 (by rfl) zr50) rfl .nil rfl ?_
    refine .s (f_store (n := 0) (o := 10) (off := 0) (p := []) (c := .d (eGTx (⟨(List.replicate 32 (0 : Int)), (List.replicate 32 (0 : Int)), (0 : Int), (0 : Int), (0 : Int), (List.replicate 32 (0 : Int))⟩ : GTx))) (old := .d (eGTx (⟨(List.replicate 32 (0 : Int)), (List.replicate 32 (0 : Int)), (0 : Int), (0 : Int), (0 : Int), (List.replicate 32 (0 : Int))⟩ : GTx))) (z := .d (eGTx x14)) (c' := .d (eGTx x14)) rfl rfl (by rfl) ty50 (by rfl)) rfl (.c rfl (.c rfl .nil)) (.cons rfl .nil) ?_
    refine .z ?_
    refine .l 10 0 [] (.d (eGTx x14)) (.d (eGTx x14)) ty50 ?_
    obtain ⟨y17, hy18, h⟩ := bind_some h
    refine .v1 (f_callP hgl (by rfl) en27 rfl (by rfl) (by rfl) (by rfl) (F27_tx_From_ok hy18)) rfl rfl ?_
    refine .n (f_alloc 11 (by rfl) zr47) rfl .nil rfl ?_
    refine .s (f_store (n := 0) (o := 11) (off := 0) (p := []) (c := .d (eA46 (List.replicate 32 (0 : Int)))) (old := .d (eA46 (List.replicate 32 (0 : Int)))) (z := .d (eA46 y17)) (c' := .d (eA46 y17)) rfl rfl (by rfl) ty47 (by rfl)) rfl (.c rfl (.c rfl .nil)) (.cons rfl .nil) ?_
    refine .nil (aq_then ?_)
    refine aw_seq ?_
    refine aw_rs ?_
    refine .l 4 0 [] (.d (eGTree a1)) (.d (eGTree a1)) ty27 ?_
    refine .l 11 0 [] (.d (eA46 y17)) (.d (eA46 y17)) ty47 ?_
    obtain ⟨y19, hy20, h⟩ := bind_some h
    refine .v2 (f_callP hgl (by rfl) en33 rfl (by rfl) (by rfl) (by rfl) (F33_acct_Get_ok hy20)) rfl rfl rfl ?_
    refine .m rfl ?_
    refine .v1 (f_extract (by rfl) rfl) rfl rfl ?_
    refine .v1 (f_extract (by rfl) rfl) rfl rfl ?_
    refine .n (f_alloc 12 (by rfl) zr80) rfl .nil rfl ?_
    refine .s (f_store (n := 0) (o := 12) (off := 0) (p := []) (c := .d (eGAccount (⟨(0 : Int), (0 : Int)⟩ : GAccount))) (old := .d (eGAccount (⟨(0 : Int), (0 : Int)⟩ : GAccount))) (z := .d (eGAccount y19.1)) (c' := .d (eGAccount y19.1)) rfl rfl (by rfl) ty80 (by rfl)) rfl (.c rfl (.c rfl .nil)) (.cons rfl .nil) ?_
    refine .a rfl ?_
    refine .z ?_
    refine .v1 (f_fieldAddr (n := 64) (by rfl) fl50_2 (by decide)) rfl rfl ?_
    refine .l 10 (0 + 64) [2] (.d (eGTx x14)) (.U x14.Nonce) ty48 ?_
    refine .v1 (f_fieldAddr (n := 0) (by rfl) fl80_0 (by decide)) rfl rfl ?_
    refine .l 12 (0 + 0) [0] (.d (eGAccount y19.1)) (.U y19.1.Nonce) ty48 ?_
    refine .b rfl rfl rfl ?_
    refine .nil (aq_then ?_)
    refine aw_cond rfl (fun hc21 => ?_) (fun hc21 => ?_)
    ·replace h := ite_t hc21 h
     refine aw_exit ?_
     refine aq_then_exit ?_
     refine aq_block_exit ?_
     obtain rfl := Option.some.inj h
     refine aq_k hb0 (.k 4 rfl (.k 6 rfl (.k 8 rfl (.k 35 rfl (.k 36 rfl (.k 37 rfl .nil)))))) (.k 4 rfl (.k 6 rfl (.k 34 rfl (.k 1135 rfl .nil)))) ?_
     exact jq
    replace h := ite_f hc21 h
    refine aw_skip ?_
    refine aq_then ?_
    refine aw_rds ?_
    refine .v1 (f_move (by rfl)) rfl rfl ?_
    refine .v (f_load (n := 0) (o := 11) (off := 0) (p := []) (c := .d (eA46 y17)) (z := .d (eA46 y17)) (by rfl) rfl ty47 (by rfl)) rfl (.c rfl .nil) (.cons rfl .nil) ?_
    obtain ⟨y22, hy23, h⟩ := bind_some h
    refine .w (f_callG (xs := [.ptr 34 0 [], .d (eA46 y17)]) (r := .d (eGLine y22)) (hw := [(1138, .av (.d (eGLine y22))), (34, .av (.st [.st [.slc 1135 0 ((z0_1).length) 33]])), (1135, .av (.d (.arr 33 ((z0_1).length) ((z0_1).map eGLine))))]) (fun i => bif Nat.beq i 4 then 1138 else (bif Nat.beq i 1 then 1135 else (bif Nat.beq i 0 then 34 else i))) [] hgl (by rfl) (cal_f en45) rfl (by rfl) (by rfl) (by rfl) (by rfl) (.cons (.same _) (.cons (.same _) .nil)) rfl rfl rfl rfl (F45_shard_part_line_4f5_ok hy23)) rfl (.c rfl (.c rfl .nil)) (.cons rfl (.cons rfl .nil)) (.cons rfl .nil) ?_
    refine .v (f_load (n := 0) (o := 10) (off := 0) (p := []) (c := .d (eGTx x14)) (z := .d (eGTx x14)) (by rfl) rfl ty50 (by rfl)) rfl (.c rfl .nil) (.cons rfl .nil) ?_
    obtain ⟨y24, hy25, h⟩ := bind_some h
    refine .v2 (f_callP hgl (by rfl) en44 rfl (by rfl) (by rfl) (by rfl) (F44_queue_Put_ok hy25)) rfl rfl rfl ?_
    refine .v1 (f_move (by rfl)) rfl rfl ?_
    refine .v1 (f_extract (by rfl) rfl) rfl rfl ?_
    refine .v1 (f_extract (by rfl) rfl) rfl rfl ?_
    refine .v1 (f_extract (by rfl) rfl) rfl rfl ?_
    refine .n (f_alloc 14 (by rfl) zrv69) rfl .nil rfl ?_
    refine .s (f_store (n := 0) (o := 14) (off := 0) (p := []) (c := .st [.d (eA46 (List.replicate 32 (0 : Int))), .N]) (old := .st [.d (eA46 (List.replicate 32 (0 : Int))), .N]) (z := .d (eGLine y24.1)) (c' := .d (eGLine y24.1)) rfl rfl (by rfl) ty69 (by rfl)) rfl (.c rfl (.c rfl .nil)) (.cons rfl .nil) ?_
    refine .v1 (f_assign (by rfl)) rfl rfl ?_
    refine .v1 (f_assign (by rfl)) rfl rfl ?_
    refine .nil (by kernel_rfl) ?_
    refine aw_rs ?_
    refine .m rfl ?_
    refine .nil (aq_then ?_)
    refine aw_block ?_
    refine aw_rs ?_
    refine .b rfl rfl rfl ?_
    refine .a rfl ?_
    refine .nil (aq_then ?_)
    refine aw_cond rfl (fun hc26 => ?_) (fun hc26 => ?_)
    ·replace h := ite_t hc26 h
     refine aw_r ?_
     refine .m rfl ?_
     refine .l 14 0 [] (.d (eGLine y24.1)) (.d (eGLine y24.1)) ty69 ?_
     obtain ⟨y27, hy28, h⟩ := bind_some h
     refine .w (f_callG (xs := [.ptr 34 0 [], .d (eGLine y24.1)]) (r := .res []) (hw := [(34, .av (.st [.st [.slc 1139 0 ((y27).length) 33]])), (1135, .dead), (1139, .av (.d (.arr 33 ((y27).length) ((y27).map eGLine))))]) (fun i => bif Nat.beq i 1102 then 1139 else (bif Nat.beq i 1 then 1135 else (bif Nat.beq i 0 then 34 else i))) [] hgl (by rfl) (cal_f en36) rfl (by rfl) (by rfl) (by rfl) (by rfl) (.cons (.same _) (.cons (.same _) .nil)) rfl rfl rfl rfl (F36_shard_part_set_08b_ok hy28)) rfl (.c rfl (.c rfl .nil)) (.cons rfl (.cons rfl .nil)) (.cons rfl .nil) ?_
     refine .nil ?_
     refine aq_block ?_
     refine aq_block ?_
     obtain rfl := Option.some.inj h
     refine aq_weak (s' := ⟨[(4, .ptr 4 0 []), (6, .ptr 6 0 []), (8, .ptr 34 0 []), (35, .d (eL28 a2)), (36, .I ((a2).length : Int)), (37, .I z0_0)], [(4, .av (.d (eGTree a1))), (6, .av (.st [.N])), (34, .av (.st [.st [.slc 1135 0 ((y27).length) 33]])), (1135, .av (.d (.arr 33 ((y27).length) ((y27).map eGLine))))], []⟩) (fun i => (bif Nat.beq i 1135 then 1139 else i)) hb0 (.cons rfl (.cons rfl (.cons rfl (.cons rfl (.cons rfl (.cons rfl .nil)))))) (.cons rfl (.cons rfl (.cons rfl (.cons rfl .nil)))) rfl (by rfl) ?_
     exact jq
    replace h := ite_f hc26 h
    refine aw_rs ?_
    refine .b rfl rfl rfl ?_
    refine .a rfl ?_
    refine .nil (aq_then ?_)
    refine aw_cond rfl (fun hc29 => ?_) (fun hc29 => ?_)
    ·replace h := ite_t hc29 h
     refine aw_rs ?_
     refine .v (f_build (xs := []) (z' := .st [.N]) (by rfl) zrv24 ag24 rfl (by rfl) trivial (by rfl) (by rfl)) rfl .nil .nil ?_
     refine .m rfl ?_
     refine .s (f_store (n := 0) (o := 6) (off := 0) (p := []) (c := .st [.N]) (old := .st [.N]) (z := .st [.N]) (c' := .st [.N]) rfl rfl (by rfl) ty24 (by rfl)) rfl (.c rfl (.c rfl .nil)) (.cons rfl .nil) ?_
     refine .a rfl ?_
     refine .nil (aq_then ?_)
     refine aw_ret ?_
     refine aq_block_ret ?_
     refine aq_block_ret ?_
     obtain rfl := Option.some.inj h
     refine aq_k hb0 (.k 6 rfl (.k 7 rfl .nil)) (.k 6 rfl .nil) ?_
     exact jq
    replace h := ite_f hc29 h
    refine aw_skip ?_
    refine aq_block ?_
    refine aq_block ?_
    obtain rfl := Option.some.inj h
    refine aq_k hb0 (.k 4 rfl (.k 6 rfl (.k 8 rfl (.k 35 rfl (.k 36 rfl (.k 37 rfl .nil)))))) (.k 4 rfl (.k 6 rfl (.k 34 rfl (.k 1135 rfl .nil)))) ?_
    exact jq
   rcases o30 with j30 | j30
   ·replace h := elim_l h
    refine aq_then ?_
    refine aw_r ?_
    refine .b rfl rfl rfl ?_
    refine .m rfl ?_
    refine .nil ?_
    obtain rfl := Option.some.inj h
    refine aq_k hb0 (.k 4 rfl (.k 6 rfl (.k 8 rfl (.k 35 rfl (.k 36 rfl (.k 37 rfl .nil)))))) (.k 4 rfl (.k 6 rfl (.k 34 rfl (.k 1135 rfl .nil)))) ?_
    exact jq
   replace h := elim_r h
   refine aq_then_ret ?_
   obtain rfl := Option.some.inj h
   refine aq_k hb0 (.k 6 rfl (.k 7 rfl .nil)) (.k 6 rfl .nil) ?_
   exact jq
  replace h := ite_f hc13 h
  refine aw_exit ?_
  refine aq_then_exit ?_
  obtain rfl := Option.some.inj h
  refine aq_k hb0 (.k 6 rfl (.k 8 rfl .nil)) (.k 6 rfl (.k 34 rfl (.k 1135 rfl .nil))) ?_
  exact jq
 rcases o32 with j32 | j32
 ·replace h := elim_l h
  refine aq_block_exit ?_
  refine aq_then ?_
  refine aw_rs ?_
  refine .m rfl ?_
  refine .v1 (f_nilCheck (by rfl)) rfl rfl ?_
  refine .v1 (f_fieldAddr (n := 0) (by rfl) fl78_0 (by decide)) rfl rfl ?_
  refine .l 34 (0 + 0) [0] (.st [.st [.slc 1135 0 ((j32).length) 33]]) (.st [.slc 1135 0 ((j32).length) 33]) ty24 ?_
  refine .s (f_store (n := 0) (o := 6) (off := 0) (p := []) (c := .st [.N]) (old := .st [.N]) (z := .st [.slc 1135 0 ((j32).length) 33]) (c' := .st [.slc 1135 0 ((j32).length) 33]) rfl rfl (by rfl) ty24 (by rfl)) rfl (.c rfl (.c rfl .nil)) (.cons rfl .nil) ?_
  refine .a rfl ?_
  refine .nil (aq_then ?_)
  refine aw_ret ?_
  obtain rfl := Option.some.inj h
  refine aq_freezeH [(1135, (.arr 33 ((j32).length) ((j32).map eGLine)))] [(6, .ptr 6 0 []), (7, .I (0 : Int))] [(6, .av (.d (eGShard (⟨j32⟩ : GShard)))), (34, .av (.d (eGshard_part (⟨(⟨j32⟩ : GShard)⟩ : Gshard_part))))] (.cons rfl .nil) (.keep rfl (.keep rfl .nil)) (.cons rfl (by rfl) (.st (.cons (.whole (.head _)) .nil)) (.cons rfl (by rfl) (.st (.cons (.st (.cons (.whole (.head _)) .nil)) .nil)) .nil)) ?_
  exact aq_finp hb0 rfl (.cell rfl rfl ty24 (by rfl) (.tmp rfl (by rfl) .nil)) (by rfl) rfl ⟨rfl, rfl⟩
 replace h := elim_r h
 refine aq_block_ret ?_
 refine aq_then_ret ?_
 obtain rfl := Option.some.inj h
 refine aq_freezeH [] [(6, .ptr 6 0 []), (7, .I j32)] [(6, .av (.d (eGShard (⟨[]⟩ : GShard))))] .nil (.keep rfl (.keep rfl .nil)) (.cons rfl (by rfl) (.st (.cons .nil .nil)) .nil) ?_
 exact aq_finp hb0 rfl (.cell rfl rfl ty24 (by rfl) (.tmp rfl (by rfl) .nil)) (by rfl) rfl ⟨rfl, rfl⟩
def F58_pool_Back_1_60e_s0 (n : Nat) (a1 : (List GTx)) (a2 : Int) (a3 : (List GShard)) (z0_0 : Int) (z0_1 : List GTx) (z0_2 : List GTx) : Option ((Int × List GTx × List GTx) ⊕ (List GTx × List GTx)) :=
  (if (decide (z0_0 < ((a1).length : Int))) = true then ((((rd a1 z0_0).bind fun (x2 : GTx) => ((F57_pool_sent_of n x2 a2 ((a3).length : Int)).bind fun (y5 : Bool) => (if y5 = true then (if ((z0_1 ++ ([x2] : List GTx))).length ≤ 1073741824 then some ((z0_1 ++ ([x2] : List GTx)), z0_2) else none) else (if ((z0_2 ++ ([x2] : List GTx))).length ≤ 1073741824 then some (z0_1, (z0_2 ++ ([x2] : List GTx))) else none))))).bind fun (o10 : List GTx × List GTx) => some (.inl ((IntKind.i64.wrap (z0_0 + (1 : Int))), o10.1, o10.2))) else some (.inr (z0_1, z0_2)))
def F58_pool_Back_1_60e (n : Nat) (a0 : GShard) (a1 : (List GTx)) (a2 : Int) (a3 : (List GShard)) (a4 : GTree) : Option ((List GTx) × Int × GShard) :=
  ((loopF (fun (z : Int × List GTx × List GTx) => F58_pool_Back_1_60e_s0 n a1 a2 a3 z.1 z.2.1 z.2.2) n ((0 : Int), ([] : List GTx), ([] : List GTx))).bind fun (o12 : List GTx × List GTx) => ((F11_shard_Back n a0 a4 o12.1).bind fun (y14 : GShard × Int) => some (o12.2, y14.2, y14.1)))
theorem F58_pool_Back_1_60e_ok {n : Nat} {a0 : GShard} {a1 : (List GTx)} {a2 : Int} {a3 : (List GShard)} {a4 : GTree} {r : (List GTx) × Int × GShard} (h : F58_pool_Back_1_60e n a0 a1 a2 a3 a4 = some r) :
    ACall Tryz.prog GS 58 [.d (eGShard a0), .ptr 0 0 [], .ptr 1 0 [], .ptr 2 0 [], .ptr 3 0 [], .ptr 4 0 []] [(0, .av (.d (eL28 a1))), (1, .av (.fn (.func 57) [] [])), (2, .av (.I a2)), (3, .av (.d (eL45 a3))), (4, .av (.d (eGTree a4)))] (fun r' hp' => r' = .res [.d (eGShard r.2.2), .d (eL28 r.1), .I r.2.1] ∧ hp' = [(7, .av (.d (eGShard r.2.2))), (0, .av (.d (eL28 a1))), (1, .av (.fn (.func 57) [] [])), (2, .av (.I a2)), (3, .av (.d (eL45 a3))), (4, .av (.d (eGTree a4)))]) := by
 refine acall_of_body mixed Tryz.func58 rfl (by rfl) ?_
 intro C hro hgl hb0
 unfold F58_pool_Back_1_60e at h
 refine aw_rs ?_
 refine .n (f_box 6 (by rfl) (by rfl)) rfl (.c rfl .nil) rfl ?_
 refine .n (f_alloc 7 (by rfl) zrv24) rfl .nil rfl ?_
 refine .a rfl ?_
 refine .a rfl ?_
 refine .z ?_
 refine .a rfl ?_
 refine .a rfl ?_
 refine .nil (aq_then ?_)
 refine aw_seq ?_
 refine aw_rs ?_
 refine .l 0 0 [] (.d (eL28 a1)) (.d (eL28 a1)) ty28 ?_
 refine .v1 (f_lenD (n := (a1).length) (by rfl) sl28 rfl (by simp)) rfl rfl ?_
 refine .m rfl ?_
 refine .nil (aq_then ?_)
 refine aw_block ?_
 refine aw_adopt 10 1124 99 rfl rfl ?_
 refine aw_adopt 11 1125 99 rfl rfl ?_
 refine aw_weak (s' := ⟨[(2, .ptr 1 0 []), (3, .ptr 2 0 []), (4, .ptr 3 0 []), (5, .ptr 4 0 []), (6, .ptr 6 0 []), (7, .ptr 7 0 []), (10, .slc 1124 0 ((([] : List GTx)).length) 99), (11, .slc 1125 0 ((([] : List GTx)).length) 99), (15, .d (eL28 a1)), (16, .I ((a1).length : Int)), (17, .I (0 : Int))], [(1, .av (.fn (.func 57) [] [])), (2, .av (.I a2)), (3, .av (.d (eL45 a3))), (4, .av (.d (eGTree a4))), (6, .av (.d (eGShard a0))), (7, .av (.st [.N])), (1124, .av (.d (.arr 99 ((([] : List GTx)).length) ((([] : List GTx)).map eGTx)))), (1125, .av (.d (.arr 99 ((([] : List GTx)).length) ((([] : List GTx)).map eGTx)))), (0, .av (.d (eL28 a1)))], []⟩) id hb0 (.keep rfl (.keep rfl (.keep rfl (.keep rfl (.keep rfl (.keep rfl (.keep (by simp only [List.length_set]; rfl) (.keep (by simp only [List.length_set]; rfl) (.keep rfl (.keep rfl (.keep rfl .nil))))))))))) (.keep rfl (.keep rfl (.keep rfl (.keep rfl (.keep rfl (.keep rfl (.keep (by simp only [List.length_set]; rfl) (.keep (by simp only [List.length_set]; rfl) (.keep rfl .nil))))))))) rfl (by rfl) ?_
 obtain ⟨o12, ho13, h⟩ := bind_some h
 refine aw_loopX (σ := Int × List GTx × List GTx) (fun z => ⟨[(2, .ptr 1 0 []), (3, .ptr 2 0 []), (4, .ptr 3 0 []), (5, .ptr 4 0 []), (6, .ptr 6 0 []), (7, .ptr 7 0 []), (10, .slc 1124 0 ((z.2.1).length) 99), (11, .slc 1125 0 ((z.2.2).length) 99), (15, .d (eL28 a1)), (16, .I ((a1).length : Int)), (17, .I z.1)], [(1, .av (.fn (.func 57) [] [])), (2, .av (.I a2)), (3, .av (.d (eL45 a3))), (4, .av (.d (eGTree a4))), (6, .av (.d (eGShard a0))), (7, .av (.st [.N])), (1124, .av (.d (.arr 99 ((z.2.1).length) ((z.2.1).map eGTx)))), (1125, .av (.d (.arr 99 ((z.2.2).length) ((z.2.2).map eGTx)))), (0, .av (.d (eL28 a1)))], []⟩) (fun _ => (.exit 0)) (fun (o12 : List GTx × List GTx) => ⟨[(5, .ptr 4 0 []), (6, .ptr 6 0 []), (7, .ptr 7 0 []), (10, .slc 1124 0 ((o12.1).length) 99), (11, .slc 1125 0 ((o12.2).length) 99)], [(4, .av (.d (eGTree a4))), (6, .av (.d (eGShard a0))), (7, .av (.st [.N])), (1124, .av (.d (.arr 99 ((o12.1).length) ((o12.1).map eGTx)))), (1125, .av (.d (.arr 99 ((o12.2).length) ((o12.2).map eGTx)))), (0, .av (.d (eL28 a1))), (1, .av (.fn (.func 57) [] [])), (2, .av (.I a2)), (3, .av (.d (eL45 a3)))], []⟩) ho13 (fun _ => rfl) ?_ ?_
 ·clear h ho13
  rintro ⟨z0_0, z0_1, z0_2⟩ o h
  change F58_pool_Back_1_60e_s0 n a1 a2 a3 z0_0 z0_1 z0_2 = some o at h
  unfold F58_pool_Back_1_60e_s0 at h
  show AW _ _ _ ⟨[(2, .ptr 1 0 []), (3, .ptr 2 0 []), (4, .ptr 3 0 []), (5, .ptr 4 0 []), (6, .ptr 6 0 []), (7, .ptr 7 0 []), (10, .slc 1124 0 ((z0_1).length) 99), (11, .slc 1125 0 ((z0_2).length) 99), (15, .d (eL28 a1)), (16, .I ((a1).length : Int)), (17, .I z0_0)], [(1, .av (.fn (.func 57) [] [])), (2, .av (.I a2)), (3, .av (.d (eL45 a3))), (4, .av (.d (eGTree a4))), (6, .av (.d (eGShard a0))), (7, .av (.st [.N])), (1124, .av (.d (.arr 99 ((z0_1).length) ((z0_1).map eGTx)))), (1125, .av (.d (.arr 99 ((z0_2).length) ((z0_2).map eGTx)))), (0, .av (.d (eL28 a1)))], []⟩
  refine aw_rs ?_
  refine .b rfl rfl rfl ?_
  refine .nil (aq_then ?_)
  refine aw_seq ?_
  refine aw_cond rfl (fun hc1 => ?_) (fun hc1 => ?_)
  ·replace h := ite_t hc1 h
   refine aw_skip ?_
   refine aq_then ?_
   refine aw_seq ?_
   obtain ⟨o10, ho11, h⟩ := bind_some h
   refine aw_join (.normal) ⟨[(2, .ptr 1 0 []), (3, .ptr 2 0 []), (4, .ptr 3 0 []), (5, .ptr 4 0 []), (6, .ptr 6 0 []), (7, .ptr 7 0 []), (10, .slc 1131 0 ((o10.1).length) 99), (11, .slc 1125 0 ((o10.2).length) 99), (15, .d (eL28 a1)), (16, .I ((a1).length : Int)), (17, .I z0_0)], [(1, .av (.fn (.func 57) [] [])), (2, .av (.I a2)), (3, .av (.d (eL45 a3))), (4, .av (.d (eGTree a4))), (6, .av (.d (eGShard a0))), (7, .av (.st [.N])), (1131, .av (.d (.arr 99 ((o10.1).length) ((o10.1).map eGTx)))), (1125, .av (.d (.arr 99 ((o10.2).length) ((o10.2).map eGTx)))), (0, .av (.d (eL28 a1)))], []⟩ ?_ ?_
   ·replace h := ho11
    refine aw_block ?_
    refine aw_rs ?_
    obtain ⟨x2, hx3, h⟩ := bind_some h
    obtain ⟨hx4, hx3⟩ := rd_some hx3
    refine .v2 (f_indexS (by rfl) sl28 hx4 (rd_map _ hx3)) rfl rfl rfl ?_
    refine .v1 (f_loadR (z := (eGTx x2)) (by rfl) ty50) rfl rfl ?_
    refine .n (f_alloc 13 (by rfl) zr50) rfl .nil rfl ?_
    refine .s (f_store (n := 0) (o := 13) (off := 0) (p := []) (c := .d (eGTx (⟨(List.replicate 32 (0 : Int)), (List.replicate 32 (0 : Int)), (0 : Int), (0 : Int), (0 : Int), (List.replicate 32 (0 : Int))⟩ : GTx))) (old := .d (eGTx (⟨(List.replicate 32 (0 : Int)), (List.replicate 32 (0 : Int)), (0 : Int), (0 : Int), (0 : Int), (List.replicate 32 (0 : Int))⟩ : GTx))) (z := .d (eGTx x2)) (c' := .d (eGTx x2)) rfl rfl (by rfl) ty50 (by rfl)) rfl (.c rfl (.c rfl .nil)) (.cons rfl .nil) ?_
    refine .z ?_
    refine .l 1 0 [] (.fn (.func 57) [] []) (.fn (.func 57) [] []) ty109 ?_
    refine .l 13 0 [] (.d (eGTx x2)) (.d (eGTx x2)) ty50 ?_
    refine .l 2 0 [] (.I a2) (.I a2) ty3 ?_
    refine .l 3 0 [] (.d (eL45 a3)) (.d (eL45 a3)) ty45 ?_
    refine .v1 (f_lenD (n := (a3).length) (by rfl) sl45 rfl (by simp)) rfl rfl ?_
    obtain ⟨y5, hy6, h⟩ := bind_some h
    refine .w (f_callG0 (xs := [.d (eGTx x2), .I a2, .I ((a3).length : Int)]) (r := .B y5) (fun i => i) [] hgl (by rfl) (cal_v (first := []) (caps := []) en57) rfl (by rfl) (by rfl) (by rfl) (by rfl) (.cons (.same _) (.cons (.same _) (.cons (.same _) .nil))) rfl rfl (F57_pool_sent_of_ok hy6)) rfl (.c rfl (.c rfl (.c rfl (.c rfl .nil)))) .nil .nil ?_
    refine .nil (aq_then ?_)
    refine aw_cond rfl (fun hc7 => ?_) (fun hc7 => ?_)
    ·replace h := ite_t hc7 h
     refine aw_r ?_
     refine .m rfl ?_
     refine .l 13 0 [] (.d (eGTx x2)) (.d (eGTx x2)) ty50 ?_
     refine .n (f_buildS (xs := [(0, .d (eGTx x2))]) (z := (.st [(eA46 (List.replicate 32 (0 : Int))), (eA46 (List.replicate 32 (0 : Int))), (.val (.int .u64 (0 : Int))), (.val (.int .u64 (0 : Int))), (.val (.int .u64 (0 : Int))), (eA46 (List.replicate 32 (0 : Int)))])) (zs := (([x2] : List GTx)).map eGTx) 1130 (by rfl) el28 zel28 (by rfl) (by decide) (by decide) rfl (by rfl) ⟨_, _, _, rfl, pl28_0, rfl, rfl, trivial⟩ (by rfl)) rfl (.c rfl .nil) rfl ?_
     obtain ⟨hb8, h⟩ := ifp h
     refine .w (f_appendC (m := ((z0_1 ++ ([x2] : List GTx))).length) (ys := (([x2] : List GTx) : List GTx).map eGTx) (xs := (z0_1).map eGTx) (zs := ((z0_1 ++ ([x2] : List GTx))).map eGTx) 1131 (by rfl) el28 (by simp) (by simp) (by simp [List.map_drop]) (by simp) (Nat.le_trans (Nat.mul_le_mul_right _ hb8) (by decide)) (Nat.le_trans hb8 (by decide)) srcW) rfl (.c rfl (.c rfl .nil)) (.cons rfl (.cons rfl .nil)) (.cons rfl .nil) ?_
     refine .a rfl ?_
     refine .nil ?_
     refine aq_block ?_
     obtain rfl := Option.some.inj h
     refine aq_k hb0 (.k 2 rfl (.k 3 rfl (.k 4 rfl (.k 5 rfl (.k 6 rfl (.k 7 rfl (.k 10 rfl (.k 11 rfl (.k 15 rfl (.k 16 rfl (.k 17 rfl .nil))))))))))) (.k 1 rfl (.k 2 rfl (.k 3 rfl (.k 4 rfl (.k 6 rfl (.k 7 rfl (.k 1131 rfl (.k 1125 rfl (.k 0 rfl .nil))))))))) ?_
     exact jq
    replace h := ite_f hc7 h
    refine aw_r ?_
    refine .m rfl ?_
    refine .l 13 0 [] (.d (eGTx x2)) (.d (eGTx x2)) ty50 ?_
    refine .n (f_buildS (xs := [(0, .d (eGTx x2))]) (z := (.st [(eA46 (List.replicate 32 (0 : Int))), (eA46 (List.replicate 32 (0 : Int))), (.val (.int .u64 (0 : Int))), (.val (.int .u64 (0 : Int))), (.val (.int .u64 (0 : Int))), (eA46 (List.replicate 32 (0 : Int)))])) (zs := (([x2] : List GTx)).map eGTx) 1132 (by rfl) el28 zel28 (by rfl) (by decide) (by decide) rfl (by rfl) ⟨_, _, _, rfl, pl28_0, rfl, rfl, trivial⟩ (by rfl)) rfl (.c rfl .nil) rfl ?_
    obtain ⟨hb9, h⟩ := ifp h
    refine .w (f_appendC (m := ((z0_2 ++ ([x2] : List GTx))).length) (ys := (([x2] : List GTx) : List GTx).map eGTx) (xs := (z0_2).map eGTx) (zs := ((z0_2 ++ ([x2] : List GTx))).map eGTx) 1133 (by rfl) el28 (by simp) (by simp) (by simp [List.map_drop]) (by simp) (Nat.le_trans (Nat.mul_le_mul_right _ hb9) (by decide)) (Nat.le_trans hb9 (by decide)) srcW) rfl (.c rfl (.c rfl .nil)) (.cons rfl (.cons rfl .nil)) (.cons rfl .nil) ?_
    refine .a rfl ?_
    refine .nil ?_
    refine aq_block ?_
    obtain rfl := Option.some.inj h
    refine aq_weak (s' := ⟨[(2, .ptr 1 0 []), (3, .ptr 2 0 []), (4, .ptr 3 0 []), (5, .ptr 4 0 []), (6, .ptr 6 0 []), (7, .ptr 7 0 []), (10, .slc 1131 0 ((z0_1).length) 99), (11, .slc 1125 0 (((z0_2 ++ ([x2] : List GTx))).length) 99), (15, .d (eL28 a1)), (16, .I ((a1).length : Int)), (17, .I z0_0)], [(1, .av (.fn (.func 57) [] [])), (2, .av (.I a2)), (3, .av (.d (eL45 a3))), (4, .av (.d (eGTree a4))), (6, .av (.d (eGShard a0))), (7, .av (.st [.N])), (1131, .av (.d (.arr 99 ((z0_1).length) ((z0_1).map eGTx)))), (1125, .av (.d (.arr 99 (((z0_2 ++ ([x2] : List GTx))).length) (((z0_2 ++ ([x2] : List GTx))).map eGTx)))), (0, .av (.d (eL28 a1)))], []⟩) (fun i => (bif Nat.beq i 1125 then 1133 else (bif Nat.beq i 1131 then 1124 else i))) hb0 (.cons rfl (.cons rfl (.cons rfl (.cons rfl (.cons rfl (.cons rfl (.cons rfl (.cons rfl (.cons rfl (.cons rfl (.cons rfl .nil))))))))))) (.cons rfl (.cons rfl (.cons rfl (.cons rfl (.cons rfl (.cons rfl (.cons rfl (.cons rfl (.cons rfl .nil))))))))) rfl (by rfl) ?_
    exact jq
   refine aq_then ?_
   refine aw_r ?_
   refine .b rfl rfl rfl ?_
   refine .m rfl ?_
   refine .nil ?_
   obtain rfl := Option.some.inj h
   refine aq_weak (s' := ⟨[(2, .ptr 1 0 []), (3, .ptr 2 0 []), (4, .ptr 3 0 []), (5, .ptr 4 0 []), (6, .ptr 6 0 []), (7, .ptr 7 0 []), (10, .slc 1124 0 ((o10.1).length) 99), (11, .slc 1125 0 ((o10.2).length) 99), (15, .d (eL28 a1)), (16, .I ((a1).length : Int)), (17, .I (IntKind.i64.wrap (z0_0 + (1 : Int))))], [(1, .av (.fn (.func 57) [] [])), (2, .av (.I a2)), (3, .av (.d (eL45 a3))), (4, .av (.d (eGTree a4))), (6, .av (.d (eGShard a0))), (7, .av (.st [.N])), (1124, .av (.d (.arr 99 ((o10.1).length) ((o10.1).map eGTx)))), (1125, .av (.d (.arr 99 ((o10.2).length) ((o10.2).map eGTx)))), (0, .av (.d (eL28 a1)))], []⟩) (fun i => (bif Nat.beq i 1124 then 1131 else i)) hb0 (.cons rfl (.cons rfl (.cons rfl (.cons rfl (.cons rfl (.cons rfl (.cons rfl (.cons rfl (.cons rfl (.cons rfl (.cons rfl .nil))))))))))) (.cons rfl (.cons rfl (.cons rfl (.cons rfl (.cons rfl (.cons rfl (.cons rfl (.cons rfl (.cons rfl .nil))))))))) rfl (by rfl) ?_
   exact jq
  replace h := ite_f hc1 h
  refine aw_exit ?_
  refine aq_then_exit ?_
  obtain rfl := Option.some.inj h
  refine aq_k hb0 (.k 5 rfl (.k 6 rfl (.k 7 rfl (.k 10 rfl (.k 11 rfl .nil))))) (.k 4 rfl (.k 6 rfl (.k 7 rfl (.k 1124 rfl (.k 1125 rfl (.k 0 rfl (.k 1 rfl (.k 2 rfl (.k 3 rfl .nil))))))))) ?_
  exact jq
 refine aq_block_exit ?_
 refine aq_then ?_
 refine aw_rs ?_
 refine .l 6 0 [] (.d (eGShard a0)) (.d (eGShard a0)) ty24 ?_
 refine .l 4 0 [] (.d (eGTree a4)) (.d (eGTree a4)) ty27 ?_
 refine .m rfl ?_
 refine R.freeze [(1124, (.arr 99 ((o12.1).length) ((o12.1).map eGTx)))] [(6, .ptr 6 0 []), (7, .ptr 7 0 []), (11, .slc 1125 0 ((o12.2).length) 99), (37, .d (eGShard a0)), (38, .d (eGTree a4)), (39, .d (eL28 o12.1))] (.cons rfl .nil) (.keep rfl (.keep rfl (.keep rfl (.keep rfl (.keep rfl (.cons rfl (.whole (.head _)) .nil)))))) ?_
 obtain ⟨y14, hy15, h⟩ := bind_some h
 refine .v (f_callP hgl (by rfl) en11 rfl (by rfl) (by rfl) (by rfl) (F11_shard_Back_ok hy15)) rfl (.c rfl (.c rfl (.c rfl .nil))) .nil ?_
 refine .m rfl ?_
 refine .v1 (f_extract (by rfl) rfl) rfl rfl ?_
 refine .v1 (f_extract (by rfl) rfl) rfl rfl ?_
 refine .s (f_store (n := 0) (o := 6) (off := 0) (p := []) (c := .d (eGShard a0)) (old := .d (eGShard a0)) (z := .d (eGShard y14.1)) (c' := .d (eGShard y14.1)) rfl rfl (by rfl) ty24 (by rfl)) rfl (.c rfl (.c rfl .nil)) (.cons rfl .nil) ?_
 refine .a rfl ?_
 refine .z ?_
 refine .l 6 0 [] (.d (eGShard y14.1)) (.d (eGShard y14.1)) ty24 ?_
 refine .m rfl ?_
 refine .m rfl ?_
 refine .s (f_store (n := 0) (o := 7) (off := 0) (p := []) (c := .st [.N]) (old := .st [.N]) (z := .d (eGShard y14.1)) (c' := .d (eGShard y14.1)) rfl rfl (by rfl) ty24 (by rfl)) rfl (.c rfl (.c rfl .nil)) (.cons rfl .nil) ?_
 refine .a rfl ?_
 refine .a rfl ?_
 refine .nil (aq_then ?_)
 refine aw_ret ?_
 obtain rfl := Option.some.inj h
 refine aq_freeze [(1125, (.arr 99 ((o12.2).length) ((o12.2).map eGTx)))] [(7, .ptr 7 0 []), (8, .d (eL28 o12.2)), (9, .I y14.2)] (.cons rfl .nil) (.keep rfl (.cons rfl (.whole (.head _)) (.keep rfl .nil))) ?_
 refine aq_k hb0 (.k 7 rfl (.k 8 rfl (.k 9 rfl .nil))) (.k 7 rfl (.k 0 rfl (.k 1 rfl (.k 2 rfl (.k 3 rfl (.k 4 rfl .nil)))))) ?_
 exact aq_fin1 (.cell rfl rfl ty24 (by rfl) (.tmp rfl (by rfl) (.tmp rfl (by rfl) .nil))) rfl ⟨rfl, rfl⟩
def F50_api_Tx_0c3 (n : Nat) (a0 : (List GShard)) (a1 : Int) (a2 : (List GTx)) (a3 : Int) (a4 : (List GShard)) (a5 : GTree) : Option ((List GShard) × (List GTx) × Int) :=
  (((if (decide (a1 < (0 : Int))) = true then some true else some (decide (a1 ≥ ((a0).length : Int))))).bind fun (o2 : Bool) => (if o2 = true then some ([], [], (2 : Int)) else ((rd a0 a1).bind fun (x4 : GShard) => ((F58_pool_Back_1_60e n x4 a2 a3 a4 a5).bind fun (y7 : (List GTx) × Int × GShard) => (if (y7.2.1 != (0 : Int)) = true then some ([], [], y7.2.1) else ((F97_pool_Twin n a0).bind fun (y10 : List GShard) => ((rd y10 a1).bind fun (x12 : GShard) => some ((y10.set (0 + (a1).toNat) y7.2.2), y7.1, (0 : Int)))))))))
theorem F50_api_Tx_0c3_ok {n : Nat} {a0 : (List GShard)} {a1 : Int} {a2 : (List GTx)} {a3 : Int} {a4 : (List GShard)} {a5 : GTree} {r : (List GShard) × (List GTx) × Int} (h : F50_api_Tx_0c3 n a0 a1 a2 a3 a4 a5 = some r) :
    ACall Tryz.prog GS 50 [.d (eL45 a0), .I a1, .fn (.func 58) [] [.ptr 0 0 [], .ptr 1 0 [], .ptr 2 0 [], .ptr 3 0 [], .ptr 4 0 []]] [(0, .av (.d (eL28 a2))), (1, .av (.fn (.func 57) [] [])), (2, .av (.I a3)), (3, .av (.d (eL45 a4))), (4, .av (.d (eGTree a5)))] (fun r' hp' => r' = .res [.d (eL45 r.1), .d (eL28 r.2.1), .I r.2.2] ∧ hp' = [(0, .av (.d (eL28 a2))), (1, .av (.fn (.func 57) [] [])), (2, .av (.I a3)), (3, .av (.d (eL45 a4))), (4, .av (.d (eGTree a5)))]) := by
 refine acall_of_body mixed Tryz.func50 rfl (by rfl) ?_
 intro C hro hgl hb0
 unfold F50_api_Tx_0c3 at h
 refine aw_rs ?_
 refine .a rfl ?_
 refine .a rfl ?_
 refine .a rfl ?_
 refine .z ?_
 refine .a rfl ?_
 refine .nil (aq_then ?_)
 refine aw_seq ?_
 refine aw_seq ?_
 obtain ⟨o2, ho15, h⟩ := bind_some h
 refine aw_join (.normal) ⟨[(0, .d (eL45 a0)), (1, .I a1), (2, .fn (.func 58) [] [.ptr 0 0 [], .ptr 1 0 [], .ptr 2 0 [], .ptr 3 0 [], .ptr 4 0 []]), (9, .N), (18, .B o2)], [(0, .av (.d (eL28 a2))), (1, .av (.fn (.func 57) [] [])), (2, .av (.I a3)), (3, .av (.d (eL45 a4))), (4, .av (.d (eGTree a5)))], []⟩ ?_ ?_
 ·replace h := ho15
  refine aw_r ?_
  refine .m rfl ?_
  refine .b rfl rfl rfl ?_
  refine .m rfl ?_
  rcases Bool.eq_false_or_eq_true (decide (a1 < (0 : Int))) with hc1 | hc1
  ·replace h := ite_t hc1 h
   refine .q rfl rfl rfl hc1 rfl ?_
   refine .q rfl rfl rfl hc1 rfl ?_
   refine .q rfl rfl rfl hc1 rfl ?_
   refine .q rfl rfl rfl hc1 rfl ?_
   refine .v2 (f_pick_true (by rfl) hc1) rfl rfl rfl ?_
   refine .nil ?_
   obtain rfl := Option.some.inj h
   refine aq_k hb0 (.k 0 rfl (.k 1 rfl (.k 2 rfl (.k 9 rfl (.k 18 rfl .nil))))) (.k 0 rfl (.k 1 rfl (.k 2 rfl (.k 3 rfl (.k 4 rfl .nil))))) ?_
   exact jq
  replace h := ite_f hc1 h
  refine .g1 (f_move (by rfl)) rfl rfl rfl hc1 rfl ?_
  refine .g1 (f_move (by rfl)) rfl rfl rfl hc1 rfl ?_
  refine .g1 (f_lenD (n := (a0).length) (by rfl) sl45 rfl (by simp)) rfl rfl rfl hc1 rfl ?_
  refine .g2 (f_binI (by rfl) rfl (by rfl)) rfl rfl rfl hc1 rfl rfl ?_
  refine .v2 (f_pick_false (by rfl) hc1) rfl rfl rfl ?_
  refine .nil ?_
  obtain rfl := Option.some.inj h
  refine aq_k hb0 (.k 0 rfl (.k 1 rfl (.k 2 rfl (.k 9 rfl (.k 18 rfl .nil))))) (.k 0 rfl (.k 1 rfl (.k 2 rfl (.k 3 rfl (.k 4 rfl .nil))))) ?_
  exact jq
 refine aq_then ?_
 refine aw_cond rfl (fun hc3 => ?_) (fun hc3 => ?_)
 ·replace h := ite_t hc3 h
  refine aw_rs ?_
  refine .m rfl ?_
  refine .a rfl ?_
  refine .a rfl ?_
  refine .a rfl ?_
  refine .nil (aq_then ?_)
  refine aw_ret ?_
  refine aq_then_ret ?_
  obtain rfl := Option.some.inj h
  refine aq_freeze [] [(6, .d (eL45 ([]))), (7, .d (eL28 ([]))), (8, .I (2 : Int))] .nil (.cons rfl .nil (.cons rfl .nil (.keep rfl .nil))) ?_
  refine aq_k hb0 (.k 6 rfl (.k 7 rfl (.k 8 rfl .nil))) (.k 0 rfl (.k 1 rfl (.k 2 rfl (.k 3 rfl (.k 4 rfl .nil))))) ?_
  exact aq_fin1 (.tmp rfl (by rfl) (.tmp rfl (by rfl) (.tmp rfl (by rfl) .nil))) rfl ⟨rfl, rfl⟩
 replace h := ite_f hc3 h
 refine aw_skip ?_
 refine aq_then ?_
 refine aw_rs ?_
 refine .m rfl ?_
 refine .m rfl ?_
 refine .m rfl ?_
 obtain ⟨x4, hx5, h⟩ := bind_some h
 obtain ⟨hx6, hx5⟩ := rd_some hx5
 refine .v2 (f_indexS (by rfl) sl45 hx6 (rd_map _ hx5)) rfl rfl rfl ?_
 refine .v1 (f_loadR (z := (eGShard x4)) (by rfl) ty24) rfl rfl ?_
 obtain ⟨y7, hy8, h⟩ := bind_some h
 refine .w (f_callG (xs := [.d (eGShard x4)]) (r := .res [.d (eGShard y7.2.2), .d (eL28 y7.1), .I y7.2.1]) (hw := [(1140, .av (.d (eGShard y7.2.2))), (0, .av (.d (eL28 a2))), (1, .av (.fn (.func 57) [] [])), (2, .av (.I a3)), (3, .av (.d (eL45 a4))), (4, .av (.d (eGTree a5)))]) (fun i => bif Nat.beq i 7 then 1140 else i) [] hgl (by rfl) (cal_v (first := []) (caps := [.ptr 0 0 [], .ptr 1 0 [], .ptr 2 0 [], .ptr 3 0 [], .ptr 4 0 []]) en58) rfl (by rfl) (by rfl) (by rfl) (by rfl) (.cons (.same _) (.cons (.same _) (.cons (.same _) (.cons (.same _) (.cons (.same _) (.cons (.same _) .nil)))))) rfl rfl rfl rfl (F58_pool_Back_1_60e_ok hy8)) rfl (.c rfl (.c rfl .nil)) (.cons rfl (.cons rfl (.cons rfl (.cons rfl (.cons rfl .nil))))) (.cons rfl .nil) ?_
 refine .m rfl ?_
 refine .v1 (f_extract (by rfl) rfl) rfl rfl ?_
 refine .v1 (f_extract (by rfl) rfl) rfl rfl ?_
 refine .v1 (f_extract (by rfl) rfl) rfl rfl ?_
 refine .n (f_alloc 10 (by rfl) zrv24) rfl .nil rfl ?_
 refine .s (f_store (n := 0) (o := 10) (off := 0) (p := []) (c := .st [.N]) (old := .st [.N]) (z := .d (eGShard y7.2.2)) (c' := .d (eGShard y7.2.2)) rfl rfl (by rfl) ty24 (by rfl)) rfl (.c rfl (.c rfl .nil)) (.cons rfl .nil) ?_
 refine .a rfl ?_
 refine .a rfl ?_
 refine .nil (aq_then ?_)
 refine aw_seq ?_
 refine aw_rs ?_
 refine .m rfl ?_
 refine .b rfl rfl rfl ?_
 refine .nil (aq_then ?_)
 refine aw_cond rfl (fun hc9 => ?_) (fun hc9 => ?_)
 ·replace h := ite_t hc9 h
  refine aw_rs ?_
  refine .m rfl ?_
  refine .m rfl ?_
  refine .a rfl ?_
  refine .a rfl ?_
  refine .a rfl ?_
  refine .nil (aq_then ?_)
  refine aw_ret ?_
  refine aq_then_ret ?_
  obtain rfl := Option.some.inj h
  refine aq_freeze [] [(7, .d (eL28 ([]))), (8, .I y7.2.1), (6, .d (eL45 ([])))] .nil (.cons rfl .nil (.keep rfl (.cons rfl .nil .nil))) ?_
  refine aq_k hb0 (.k 6 rfl (.k 7 rfl (.k 8 rfl .nil))) (.k 0 rfl (.k 1 rfl (.k 2 rfl (.k 3 rfl (.k 4 rfl .nil))))) ?_
  exact aq_fin1 (.tmp rfl (by rfl) (.tmp rfl (by rfl) (.tmp rfl (by rfl) .nil))) rfl ⟨rfl, rfl⟩
 replace h := ite_f hc9 h
 refine aw_skip ?_
 refine aq_then ?_
 refine aw_rs ?_
 refine .m rfl ?_
 obtain ⟨y10, hy11, h⟩ := bind_some h
 refine .w (f_callG (xs := [.d (eL45 a0)]) (r := .slc 1141 0 ((y10).length) 1) (hw := [(1141, .av (.d (.arr 1 ((y10).length) ((y10).map eGShard))))]) (fun i => bif Nat.beq i 1082 then 1141 else i) [] hgl (by rfl) (cal_f en97) rfl (by rfl) (by rfl) (by rfl) (by rfl) (.cons (.same _) .nil) rfl rfl rfl rfl (F97_pool_Twin_ok hy11)) rfl (.c rfl .nil) .nil (.cons rfl .nil) ?_
 refine .a rfl ?_
 refine .z ?_
 refine .m rfl ?_
 refine .m rfl ?_
 refine .l 10 0 [] (.d (eGShard y7.2.2)) (.d (eGShard y7.2.2)) ty24 ?_
 obtain ⟨x12, hx13, h⟩ := bind_some h
 obtain ⟨hx14, hx13⟩ := rd_some hx13
 refine .v (f_indexSW (by rfl) sl45 hx14 (rd_map _ hx13)) rfl (.c rfl (.c rfl .nil)) (.cons rfl .nil) ?_
 refine .s (f_store (n := 0) (o := 1141) (off := ((0 + (a1).toNat) * 1)) (p := [0 + (a1).toNat]) (c := .d (.arr 1 ((y10).length) ((y10).map eGShard))) (old := .d (eGShard x12)) (z := .d (eGShard y7.2.2)) (c' := .d (.arr 1 ((y10).length) (((y10.set (0 + (a1).toNat) y7.2.2)).map eGShard))) (at_map _ (by simpa using hx13) rfl) (put_map _ (by simpa using hx13)) (by rfl) ty24 (by rfl)) rfl (.c rfl (.c rfl .nil)) (.cons rfl .nil) ?_
 refine .z ?_
 refine .m rfl ?_
 refine .m rfl ?_
 refine .a rfl ?_
 refine .a rfl ?_
 refine .a rfl ?_
 refine .nil (aq_then ?_)
 refine aw_ret ?_
 obtain rfl := Option.some.inj h
 refine aq_freeze [(1141, (.arr 1 ((y10).length) (((y10.set (0 + (a1).toNat) y7.2.2)).map eGShard)))] [(7, .d (eL28 y7.1)), (8, .I (0 : Int)), (6, .d (eL45 (y10.set (0 + (a1).toNat) y7.2.2)))] (.cons rfl .nil) (.keep rfl (.keep rfl (.cons rfl (.whole (.head _)) .nil))) ?_
 refine aq_k hb0 (.k 6 rfl (.k 7 rfl (.k 8 rfl .nil))) (.k 0 rfl (.k 1 rfl (.k 2 rfl (.k 3 rfl (.k 4 rfl .nil))))) ?_
 exact aq_fin1 (.tmp rfl (by rfl) (.tmp rfl (by rfl) (.tmp rfl (by rfl) .nil))) rfl ⟨rfl, rfl⟩
def F22_pool_Back (n : Nat) (a0 : (List GShard)) (a1 : Int) (a2 : GTree) (a3 : (List GTx)) : Option ((List GShard) × (List GTx) × Int) :=
  ((F49_pool_asked n a0 a2).bind fun (y1 : Int) => (if (y1 != (0 : Int)) = true then some ([], [], y1) else ((F50_api_Tx_0c3 n a0 a1 a3 a1 a0 a2).bind fun (y4 : (List GShard) × (List GTx) × Int) => some (y4.1, y4.2.1, y4.2.2))))
theorem F22_pool_Back_ok {n : Nat} {a0 : (List GShard)} {a1 : Int} {a2 : GTree} {a3 : (List GTx)} {r : (List GShard) × (List GTx) × Int} (h : F22_pool_Back n a0 a1 a2 a3 = some r) :
    ACall Tryz.prog GS 22 [.d (eL45 a0), .I a1, .d (eGTree a2), .d (eL28 a3)] [] (fun r' hp' => r' = .res [.d (eL45 r.1), .d (eL28 r.2.1), .I r.2.2] ∧ hp' = []) := by
 refine acall_of_body mixed Tryz.func22 rfl (by rfl) ?_
 intro C hro hgl hb0
 unfold F22_pool_Back at h
 refine aw_rs ?_
 refine .n (f_box 4 (by rfl) (by rfl)) rfl (.c rfl .nil) rfl ?_
 refine .n (f_box 5 (by rfl) (by rfl)) rfl (.c rfl .nil) rfl ?_
 refine .n (f_box 6 (by rfl) (by rfl)) rfl (.c rfl .nil) rfl ?_
 refine .n (f_box 7 (by rfl) (by rfl)) rfl (.c rfl .nil) rfl ?_
 refine .a rfl ?_
 refine .a rfl ?_
 refine .a rfl ?_
 refine .nil (aq_then ?_)
 refine aw_seq ?_
 refine aw_rs ?_
 refine .l 4 0 [] (.d (eL45 a0)) (.d (eL45 a0)) ty45 ?_
 refine .l 6 0 [] (.d (eGTree a2)) (.d (eGTree a2)) ty27 ?_
 obtain ⟨y1, hy2, h⟩ := bind_some h
 refine .v2 (f_callP hgl (by rfl) en49 rfl (by rfl) (by rfl) (by rfl) (F49_pool_asked_ok hy2)) rfl rfl rfl ?_
 refine .a rfl ?_
 refine .z ?_
 refine .m rfl ?_
 refine .b rfl rfl rfl ?_
 refine .nil (aq_then ?_)
 refine aw_cond rfl (fun hc3 => ?_) (fun hc3 => ?_)
 ·replace h := ite_t hc3 h
  refine aw_rs ?_
  refine .m rfl ?_
  refine .a rfl ?_
  refine .a rfl ?_
  refine .a rfl ?_
  refine .nil (aq_then ?_)
  refine aw_ret ?_
  refine aq_then_ret ?_
  obtain rfl := Option.some.inj h
  refine aq_freeze [] [(8, .d (eL45 ([]))), (9, .d (eL28 ([]))), (10, .I y1)] .nil (.cons rfl .nil (.cons rfl .nil (.keep rfl .nil))) ?_
  exact aq_finp hb0 rfl (.tmp rfl (by rfl) (.tmp rfl (by rfl) (.tmp rfl (by rfl) .nil))) (by rfl) rfl ⟨rfl, rfl⟩
 replace h := ite_f hc3 h
 refine aw_skip ?_
 refine aq_then ?_
 refine aw_rs ?_
 refine .n (f_alloc 12 (by rfl) zrv109) rfl .nil rfl ?_
 refine .s (f_store (n := 0) (o := 12) (off := 0) (p := []) (c := .d (.val .nilFunc)) (old := .d (.val .nilFunc)) (z := .fn (.func 57) [] []) (c' := .fn (.func 57) [] []) rfl rfl (by rfl) ty109 (by rfl)) rfl (.c rfl (.c rfl .nil)) (.cons rfl .nil) ?_
 refine .z ?_
 refine .l 4 0 [] (.d (eL45 a0)) (.d (eL45 a0)) ty45 ?_
 refine .l 5 0 [] (.I a1) (.I a1) ty3 ?_
 refine .v (f_makeFunc (xs := []) (ys := [.ptr 7 0 [], .ptr 12 0 [], .ptr 5 0 [], .ptr 4 0 [], .ptr 6 0 []]) (by rfl) rfl rfl (by rfl) (by rfl)) rfl (.c rfl (.c rfl (.c rfl (.c rfl (.c rfl .nil))))) .nil ?_
 obtain ⟨y4, hy5, h⟩ := bind_some h
 refine .w (f_callG0 (xs := [.d (eL45 a0), .I a1, .fn (.func 58) [] [.ptr 7 0 [], .ptr 12 0 [], .ptr 5 0 [], .ptr 4 0 [], .ptr 6 0 []]]) (r := .res [.d (eL45 y4.1), .d (eL28 y4.2.1), .I y4.2.2]) (fun i => bif Nat.beq i 4 then 6 else (bif Nat.beq i 3 then 4 else (bif Nat.beq i 2 then 5 else (bif Nat.beq i 1 then 12 else (bif Nat.beq i 0 then 7 else i))))) [] hgl (by rfl) (cal_f en50) rfl (by rfl) (by rfl) (by rfl) (by rfl) (.cons (.same _) (.cons (.same _) (.cons (.same _) .nil))) rfl rfl (F50_api_Tx_0c3_ok hy5)) rfl (.c rfl (.c rfl (.c rfl .nil))) (.cons rfl (.cons rfl (.cons rfl (.cons rfl (.cons rfl .nil))))) .nil ?_
 refine .v1 (f_extract (by rfl) rfl) rfl rfl ?_
 refine .v1 (f_extract (by rfl) rfl) rfl rfl ?_
 refine .v1 (f_extract (by rfl) rfl) rfl rfl ?_
 refine .a rfl ?_
 refine .a rfl ?_
 refine .a rfl ?_
 refine .nil (aq_then ?_)
 refine aw_ret ?_
 obtain rfl := Option.some.inj h
 exact aq_finp hb0 rfl (.tmp rfl (by rfl) (.tmp rfl (by rfl) (.tmp rfl (by rfl) .nil))) (by rfl) rfl ⟨rfl, rfl⟩
def F9_shard_Draw_s0 (n : Nat) (a0 : GShard) (a1 : GTree) (a2 : Int) (z0_0 : Int) (z0_1 : List GTx) (z0_2 : List GLine) : Option ((Int × List GTx × List GLine) ⊕ (List GTx × List GLine)) :=
  (if (decide (z0_0 < ((a0.Lines).length : Int))) = true then ((rd a0.Lines z0_0).bind fun (x11 : GLine) => ((F33_acct_Get n a1 x11.From).bind fun (y14 : GAccount × Int) => ((F34_queue_Past n x11 y14.1.Nonce).bind fun (y16 : GLine × (List GTx) × Int) => ((F35_queue_Ready n y16.1 y14.1.Nonce).bind fun (y18 : (List GTx) × Int) => (if 0 ≤ (0 : Int) ∧ (0 : Int) ≤ (if (if (IntKind.i64.wrap (a2 - ((z0_1).length : Int))) < ((y18.1).length : Int) then (IntKind.i64.wrap (a2 - ((z0_1).length : Int))) else ((y18.1).length : Int)) > (0 : Int) then (if (IntKind.i64.wrap (a2 - ((z0_1).length : Int))) < ((y18.1).length : Int) then (IntKind.i64.wrap (a2 - ((z0_1).length : Int))) else ((y18.1).length : Int)) else (0 : Int)) ∧ (if (if (IntKind.i64.wrap (a2 - ((z0_1).length : Int))) < ((y18.1).length : Int) then (IntKind.i64.wrap (a2 - ((z0_1).length : Int))) else ((y18.1).length : Int)) > (0 : Int) then (if (IntKind.i64.wrap (a2 - ((z0_1).length : Int))) < ((y18.1).length : Int) then (IntKind.i64.wrap (a2 - ((z0_1).length : Int))) else ((y18.1).length : Int)) else (0 : Int)) ≤ ((y18.1).length : Int) then (if ((z0_1 ++ ((y18.1).take ((if (if (IntKind.i64.wrap (a2 - ((z0_1).length : Int))) < ((y18.1).length : Int) then (IntKind.i64.wrap (a2 - ((z0_1).length : Int))) else ((y18.1).length : Int)) > (0 : Int) then (if (IntKind.i64.wrap (a2 - ((z0_1).length : Int))) < ((y18.1).length : Int) then (IntKind.i64.wrap (a2 - ((z0_1).length : Int))) else ((y18.1).length : Int)) else (0 : Int))).toNat))).length ≤ 1073741824 then (if 0 ≤ ((((y18.1).take ((if (if (IntKind.i64.wrap (a2 - ((z0_1).length : Int))) < ((y18.1).length : Int) then (IntKind.i64.wrap (a2 - ((z0_1).length : Int))) else ((y18.1).length : Int)) > (0 : Int) then (if (IntKind.i64.wrap (a2 - ((z0_1).length : Int))) < ((y18.1).length : Int) then (IntKind.i64.wrap (a2 - ((z0_1).length : Int))) else ((y18.1).length : Int)) else (0 : Int))).toNat)).length : Int) ∧ ((((y18.1).take ((if (if (IntKind.i64.wrap (a2 - ((z0_1).length : Int))) < ((y18.1).length : Int) then (IntKind.i64.wrap (a2 - ((z0_1).length : Int))) else ((y18.1).length : Int)) > (0 : Int) then (if (IntKind.i64.wrap (a2 - ((z0_1).length : Int))) < ((y18.1).length : Int) then (IntKind.i64.wrap (a2 - ((z0_1).length : Int))) else ((y18.1).length : Int)) else (0 : Int))).toNat)).length : Int) ≤ ((y16.1.Txs).length : Int) ∧ ((y16.1.Txs).length : Int) ≤ ((y16.1.Txs).length : Int) then ((F36_shard_part_set_08b n ({ y16.1 with Txs := ((y16.1.Txs).drop (((((y18.1).take ((if (if (IntKind.i64.wrap (a2 - ((z0_1).length : Int))) < ((y18.1).length : Int) then (IntKind.i64.wrap (a2 - ((z0_1).length : Int))) else ((y18.1).length : Int)) > (0 : Int) then (if (IntKind.i64.wrap (a2 - ((z0_1).length : Int))) < ((y18.1).length : Int) then (IntKind.i64.wrap (a2 - ((z0_1).length : Int))) else ((y18.1).length : Int)) else (0 : Int))).toNat)).length : Int)).toNat) }) z0_2).bind fun (y23 : List GLine) => some (.inl ((IntKind.i64.wrap (z0_0 + (1 : Int))), (z0_1 ++ ((y18.1).take ((if (if (IntKind.i64.wrap (a2 - ((z0_1).length : Int))) < ((y18.1).length : Int) then (IntKind.i64.wrap (a2 - ((z0_1).length : Int))) else ((y18.1).length : Int)) > (0 : Int) then (if (IntKind.i64.wrap (a2 - ((z0_1).length : Int))) < ((y18.1).length : Int) then (IntKind.i64.wrap (a2 - ((z0_1).length : Int))) else ((y18.1).length : Int)) else (0 : Int))).toNat)), y23))) else none) else none) else none))))) else some (.inr (z0_1, z0_2)))
def F9_shard_Draw (n : Nat) (a0 : GShard) (a1 : GTree) (a2 : Int) : Option (GShard × (List GTx) × Int) :=
  ((((F30_shard_Check n a0).bind fun (y1 : Int) => (if (y1 != (0 : Int)) = true then some true else ((F31_acct_Check n a1).bind fun (y4 : Int) => some (y4 != (0 : Int)))))).bind fun (o6 : Bool) => (if o6 = true then some ((⟨[]⟩ : GShard), [], (8 : Int)) else ((F32_shard_Twin n a0).bind fun (y8 : List GLine) => ((loopF (fun (z : Int × List GTx × List GLine) => F9_shard_Draw_s0 n a0 a1 a2 z.1 z.2.1 z.2.2) n ((0 : Int), ([] : List GTx), y8)).bind fun (o25 : List GTx × List GLine) => some ((⟨o25.2⟩ : GShard), o25.1, (0 : Int))))))
theorem F9_shard_Draw_ok {n : Nat} {a0 : GShard} {a1 : GTree} {a2 : Int} {r : GShard × (List GTx) × Int} (h : F9_shard_Draw n a0 a1 a2 = some r) :
    ACall Tryz.prog GS 9 [.d (eGShard a0), .d (eGTree a1), .I a2] [] (fun r' hp' => r' = .res [.d (eGShard r.1), .d (eL28 r.2.1), .I r.2.2] ∧ hp' = []) := by
 refine acall_of_body mixed Tryz.func9 rfl (by rfl) ?_
 intro C hro hgl hb0
 unfold F9_shard_Draw at h
 refine aw_rs ?_
 refine .n (f_box 3 (by rfl) (by rfl)) rfl (.c rfl .nil) rfl ?_
 refine .n (f_box 4 (by rfl) (by rfl)) rfl (.c rfl .nil) rfl ?_
 refine .n (f_alloc 6 (by rfl) zrv24) rfl .nil rfl ?_
 refine .a rfl ?_
 refine .a rfl ?_
 refine .nil (aq_then ?_)
 refine aw_seq ?_
 refine aw_seq ?_
 obtain ⟨o6, ho27, h⟩ := bind_some h
 refine aw_join (.normal) ⟨[(2, .I a2), (3, .ptr 3 0 []), (4, .ptr 4 0 []), (6, .ptr 6 0 []), (7, .N), (26, .B o6)], [(3, .av (.d (eGShard a0))), (4, .av (.d (eGTree a1))), (6, .av (.st [.N]))], []⟩ ?_ ?_
 ·replace h := ho27
  refine aw_r ?_
  refine .l 3 0 [] (.d (eGShard a0)) (.d (eGShard a0)) ty24 ?_
  obtain ⟨y1, hy2, h⟩ := bind_some h
  refine .v1 (f_callP hgl (by rfl) en30 rfl (by rfl) (by rfl) (by rfl) (F30_shard_Check_ok hy2)) rfl rfl ?_
  refine .b rfl rfl rfl ?_
  refine .m rfl ?_
  rcases Bool.eq_false_or_eq_true (y1 != (0 : Int)) with hc3 | hc3
  ·replace h := ite_t hc3 h
   refine .q rfl rfl rfl hc3 rfl ?_
   refine .q rfl rfl rfl hc3 rfl ?_
   refine .q rfl rfl rfl hc3 rfl ?_
   refine .v2 (f_pick_true (by rfl) hc3) rfl rfl rfl ?_
   refine .nil ?_
   obtain rfl := Option.some.inj h
   refine aq_k hb0 (.k 2 rfl (.k 3 rfl (.k 4 rfl (.k 6 rfl (.k 7 rfl (.k 26 rfl .nil)))))) (.k 3 rfl (.k 4 rfl (.k 6 rfl .nil))) ?_
   exact jq
  replace h := ite_f hc3 h
  refine .gv (f_load (n := 0) (o := 4) (off := 0) (p := []) (c := .d (eGTree a1)) (z := .d (eGTree a1)) (by rfl) rfl ty27 (by rfl)) rfl rfl rfl hc3 (.c rfl .nil) (.cons rfl .nil) ?_
  obtain ⟨y4, hy5, h⟩ := bind_some h
  refine .g1 (f_callP hgl (by rfl) en31 rfl (by rfl) (by rfl) (by rfl) (F31_acct_Check_ok hy5)) rfl rfl rfl hc3 rfl ?_
  refine .g2 (f_binI (by rfl) rfl (by rfl)) rfl rfl rfl hc3 rfl rfl ?_
  refine .v2 (f_pick_false (by rfl) hc3) rfl rfl rfl ?_
  refine .nil ?_
  obtain rfl := Option.some.inj h
  refine aq_k hb0 (.k 2 rfl (.k 3 rfl (.k 4 rfl (.k 6 rfl (.k 7 rfl (.k 26 rfl .nil)))))) (.k 3 rfl (.k 4 rfl (.k 6 rfl .nil))) ?_
  exact jq
 refine aq_then ?_
 refine aw_cond rfl (fun hc7 => ?_) (fun hc7 => ?_)
 ·replace h := ite_t hc7 h
  refine aw_rs ?_
  refine .l 6 0 [] (.st [.N]) (.st [.N]) ty24 ?_
  refine .s (f_store (n := 0) (o := 6) (off := 0) (p := []) (c := .st [.N]) (old := .st [.N]) (z := .st [.N]) (c' := .st [.N]) rfl rfl (by rfl) ty24 (by rfl)) rfl (.c rfl (.c rfl .nil)) (.cons rfl .nil) ?_
  refine .a rfl ?_
  refine .a rfl ?_
  refine .nil (aq_then ?_)
  refine aw_ret ?_
  refine aq_then_ret ?_
  obtain rfl := Option.some.inj h
  refine aq_freezeH [] [(6, .ptr 6 0 []), (7, .d (eL28 ([]))), (8, .I (8 : Int))] [(6, .av (.d (eGShard (⟨[]⟩ : GShard))))] .nil (.keep rfl (.cons rfl .nil (.keep rfl .nil))) (.cons rfl (by rfl) (.st (.cons .nil .nil)) .nil) ?_
  exact aq_finp hb0 rfl (.cell rfl rfl ty24 (by rfl) (.tmp rfl (by rfl) (.tmp rfl (by rfl) .nil))) (by rfl) rfl ⟨rfl, rfl⟩
 replace h := ite_f hc7 h
 refine aw_skip ?_
 refine aq_then ?_
 refine aw_rs ?_
 refine .l 3 0 [] (.d (eGShard a0)) (.d (eGShard a0)) ty24 ?_
 obtain ⟨y8, hy9, h⟩ := bind_some h
 refine .w (f_callG (xs := [.d (eGShard a0)]) (r := .st [.slc 1143 0 ((y8).length) 33]) (hw := [(1142, .av (.st [.slc 1143 0 ((y8).length) 33])), (1143, .av (.d (.arr 33 ((y8).length) ((y8).map eGLine))))]) (fun i => bif Nat.beq i 1076 then 1143 else (bif Nat.beq i 2 then 1142 else i)) [] hgl (by rfl) (cal_f en32) rfl (by rfl) (by rfl) (by rfl) (by rfl) (.cons (.same _) .nil) rfl rfl rfl rfl (F32_shard_Twin_ok hy9)) rfl (.c rfl .nil) .nil (.cons rfl (.cons rfl .nil)) ?_
 refine .v1 (f_build (xs := [(0, .st [.slc 1143 0 ((y8).length) 33])]) (z' := .st [.st [.slc 1143 0 ((y8).length) 33]]) (by rfl) zrv78 ag78 rfl (by rfl) ⟨_, _, _, rfl, pl78_0, rfl, rfl, trivial⟩ (by rfl) (by rfl)) rfl rfl ?_
 refine .n (f_box 31 (by rfl) (by rfl)) rfl (.c rfl .nil) rfl ?_
 refine .a rfl ?_
 refine .nil (aq_then ?_)
 refine aw_seq ?_
 refine aw_rs ?_
 refine .v1 (f_fieldAddr (n := 0) (by rfl) fl24_0 (by decide)) rfl rfl ?_
 refine .l 3 (0 + 0) [0] (.d (eGShard a0)) (.d (eL22 a0.Lines)) ty22 ?_
 refine .v1 (f_lenD (n := (a0.Lines).length) (by rfl) sl22 rfl (by simp)) rfl rfl ?_
 refine .m rfl ?_
 refine .nil (aq_then ?_)
 refine aw_block ?_
 refine aw_adopt 7 1146 99 rfl rfl ?_
 refine aw_weak (s' := ⟨[(2, .I a2), (4, .ptr 4 0 []), (6, .ptr 6 0 []), (7, .slc 1146 0 ((([] : List GTx)).length) 99), (9, .ptr 31 0 []), (33, .d (eL22 a0.Lines)), (34, .I ((a0.Lines).length : Int)), (35, .I (0 : Int))], [(4, .av (.d (eGTree a1))), (6, .av (.st [.N])), (1146, .av (.d (.arr 99 ((([] : List GTx)).length) ((([] : List GTx)).map eGTx)))), (31, .av (.st [.st [.slc 1143 0 ((y8).length) 33]])), (1143, .av (.d (.arr 33 ((y8).length) ((y8).map eGLine))))], []⟩) id hb0 (.keep rfl (.keep rfl (.keep rfl (.keep (by simp only [List.length_set]; rfl) (.keep rfl (.keep rfl (.keep rfl (.keep rfl .nil)))))))) (.keep rfl (.keep rfl (.keep (by simp only [List.length_set]; rfl) (.keep rfl (.keep rfl .nil))))) rfl (by rfl) ?_
 obtain ⟨o25, ho26, h⟩ := bind_some h
 refine aw_loopX (σ := Int × List GTx × List GLine) (fun z => ⟨[(2, .I a2), (4, .ptr 4 0 []), (6, .ptr 6 0 []), (7, .slc 1146 0 ((z.2.1).length) 99), (9, .ptr 31 0 []), (33, .d (eL22 a0.Lines)), (34, .I ((a0.Lines).length : Int)), (35, .I z.1)], [(4, .av (.d (eGTree a1))), (6, .av (.st [.N])), (1146, .av (.d (.arr 99 ((z.2.1).length) ((z.2.1).map eGTx)))), (31, .av (.st [.st [.slc 1143 0 ((z.2.2).length) 33]])), (1143, .av (.d (.arr 33 ((z.2.2).length) ((z.2.2).map eGLine))))], []⟩) (fun _ => (.exit 0)) (fun (o25 : List GTx × List GLine) => ⟨[(6, .ptr 6 0 []), (7, .slc 1146 0 ((o25.1).length) 99), (9, .ptr 31 0 [])], [(6, .av (.st [.N])), (1146, .av (.d (.arr 99 ((o25.1).length) ((o25.1).map eGTx)))), (31, .av (.st [.st [.slc 1143 0 ((o25.2).length) 33]])), (1143, .av (.d (.arr 33 ((o25.2).length) ((o25.2).map eGLine))))], []⟩) ho26 (fun _ => rfl) ?_ ?_
 ·clear h ho26
  rintro ⟨z0_0, z0_1, z0_2⟩ o h
  change F9_shard_Draw_s0 n a0 a1 a2 z0_0 z0_1 z0_2 = some o at h
  unfold F9_shard_Draw_s0 at h
  show AW _ _ _ ⟨[(2, .I a2), (4, .ptr 4 0 []), (6, .ptr 6 0 []), (7, .slc 1146 0 ((z0_1).length) 99), (9, .ptr 31 0 []), (33, .d (eL22 a0.Lines)), (34, .I ((a0.Lines).length : Int)), (35, .I z0_0)], [(4, .av (.d (eGTree a1))), (6, .av (.st [.N])), (1146, .av (.d (.arr 99 ((z0_1).length) ((z0_1).map eGTx)))), (31, .av (.st [.st [.slc 1143 0 ((z0_2).length) 33]])), (1143, .av (.d (.arr 33 ((z0_2).length) ((z0_2).map eGLine))))], []⟩
  refine aw_rs ?_
  refine .b rfl rfl rfl ?_
  refine .nil (aq_then ?_)
  refine aw_seq ?_
  refine aw_cond rfl (fun hc10 => ?_) (fun hc10 => ?_)
  ·replace h := ite_t hc10 h
   refine aw_skip ?_
   refine aq_then ?_
   refine aw_seq ?_
   refine aw_block ?_
   refine aw_rs ?_
   obtain ⟨x11, hx12, h⟩ := bind_some h
   obtain ⟨hx13, hx12⟩ := rd_some hx12
   refine .v2 (f_indexS (by rfl) sl22 hx13 (rd_map _ hx12)) rfl rfl rfl ?_
   refine .v1 (f_loadR (z := (eGLine x11)) (by rfl) ty69) rfl rfl ?_
   refine .n (f_alloc 11 (by rfl) zrv69) rfl .nil rfl ?_
   refine .s (f_store (n := 0) (o := 11) (off := 0) (p := []) (c := .st [.d (eA46 (List.replicate 32 (0 : Int))), .N]) (old := .st [.d (eA46 (List.replicate 32 (0 : Int))), .N]) (z := .d (eGLine x11)) (c' := .d (eGLine x11)) rfl rfl (by rfl) ty69 (by rfl)) rfl (.c rfl (.c rfl .nil)) (.cons rfl .nil) ?_
   refine .z ?_
   refine .l 4 0 [] (.d (eGTree a1)) (.d (eGTree a1)) ty27 ?_
   refine .v1 (f_fieldAddr (n := 0) (by rfl) fl69_0 (by decide)) rfl rfl ?_
   refine .l 11 (0 + 0) [0] (.d (eGLine x11)) (.d (eA46 x11.From)) ty47 ?_
   obtain ⟨y14, hy15, h⟩ := bind_some h
   refine .v2 (f_callP hgl (by rfl) en33 rfl (by rfl) (by rfl) (by rfl) (F33_acct_Get_ok hy15)) rfl rfl rfl ?_
   refine .m rfl ?_
   refine .v1 (f_extract (by rfl) rfl) rfl rfl ?_
   refine .v1 (f_extract (by rfl) rfl) rfl rfl ?_
   refine .n (f_alloc 12 (by rfl) zr80) rfl .nil rfl ?_
   refine .s (f_store (n := 0) (o := 12) (off := 0) (p := []) (c := .d (eGAccount (⟨(0 : Int), (0 : Int)⟩ : GAccount))) (old := .d (eGAccount (⟨(0 : Int), (0 : Int)⟩ : GAccount))) (z := .d (eGAccount y14.1)) (c' := .d (eGAccount y14.1)) rfl rfl (by rfl) ty80 (by rfl)) rfl (.c rfl (.c rfl .nil)) (.cons rfl .nil) ?_
   refine .a rfl ?_
   refine .z ?_
   refine .l 11 0 [] (.d (eGLine x11)) (.d (eGLine x11)) ty69 ?_
   refine .v1 (f_fieldAddr (n := 0) (by rfl) fl80_0 (by decide)) rfl rfl ?_
   refine .l 12 (0 + 0) [0] (.d (eGAccount y14.1)) (.U y14.1.Nonce) ty48 ?_
   obtain ⟨y16, hy17, h⟩ := bind_some h
   refine .v2 (f_callP hgl (by rfl) en34 rfl (by rfl) (by rfl) (by rfl) (F34_queue_Past_ok hy17)) rfl rfl rfl ?_
   refine .m rfl ?_
   refine .v1 (f_extract (by rfl) rfl) rfl rfl ?_
   refine .v1 (f_extract (by rfl) rfl) rfl rfl ?_
   refine .v1 (f_extract (by rfl) rfl) rfl rfl ?_
   refine .n (f_alloc 14 (by rfl) zrv69) rfl .nil rfl ?_
   refine .s (f_store (n := 0) (o := 14) (off := 0) (p := []) (c := .st [.d (eA46 (List.replicate 32 (0 : Int))), .N]) (old := .st [.d (eA46 (List.replicate 32 (0 : Int))), .N]) (z := .d (eGLine y16.1)) (c' := .d (eGLine y16.1)) rfl rfl (by rfl) ty69 (by rfl)) rfl (.c rfl (.c rfl .nil)) (.cons rfl .nil) ?_
   refine .a rfl ?_
   refine .a rfl ?_
   refine .z ?_
   refine .l 14 0 [] (.d (eGLine y16.1)) (.d (eGLine y16.1)) ty69 ?_
   refine .v1 (f_fieldAddr (n := 0) (by rfl) fl80_0 (by decide)) rfl rfl ?_
   refine .l 12 (0 + 0) [0] (.d (eGAccount y14.1)) (.U y14.1.Nonce) ty48 ?_
   obtain ⟨y18, hy19, h⟩ := bind_some h
   refine .v2 (f_callP hgl (by rfl) en35 rfl (by rfl) (by rfl) (by rfl) (F35_queue_Ready_ok hy19)) rfl rfl rfl ?_
   refine .m rfl ?_
   refine .v1 (f_extract (by rfl) rfl) rfl rfl ?_
   refine .v1 (f_extract (by rfl) rfl) rfl rfl ?_
   refine .a rfl ?_
   refine .a rfl ?_
   refine .z ?_
   refine .m rfl ?_
   refine .m rfl ?_
   refine .v1 (f_lenD (n := (y18.1).length) (by rfl) sl28 rfl (by simp)) rfl rfl ?_
   refine .m rfl ?_
   refine .m rfl ?_
   refine .v1 (f_lenO (by rfl) sl28 rfl) rfl rfl ?_
   refine .b rfl rfl rfl ?_
   refine .v2 (f_minI (by rfl)) rfl rfl rfl ?_
   refine .v2 (f_maxI (by rfl)) rfl rfl rfl ?_
   obtain ⟨hb20, h⟩ := ifp h
   refine .v2 (f_sliceD (k1 := .i64) (k2 := .i64) (i := (0 : Int)) (j := (if (if (IntKind.i64.wrap (a2 - ((z0_1).length : Int))) < ((y18.1).length : Int) then (IntKind.i64.wrap (a2 - ((z0_1).length : Int))) else ((y18.1).length : Int)) > (0 : Int) then (if (IntKind.i64.wrap (a2 - ((z0_1).length : Int))) < ((y18.1).length : Int) then (IntKind.i64.wrap (a2 - ((z0_1).length : Int))) else ((y18.1).length : Int)) else (0 : Int))) (xs := (y18.1).map eGTx) (zs := ((y18.1).take ((if (if (IntKind.i64.wrap (a2 - ((z0_1).length : Int))) < ((y18.1).length : Int) then (IntKind.i64.wrap (a2 - ((z0_1).length : Int))) else ((y18.1).length : Int)) > (0 : Int) then (if (IntKind.i64.wrap (a2 - ((z0_1).length : Int))) < ((y18.1).length : Int) then (IntKind.i64.wrap (a2 - ((z0_1).length : Int))) else ((y18.1).length : Int)) else (0 : Int))).toNat).map eGTx) (by rfl) sl28 (by intro hx; first | rfl | cases hx) (by intro hx; first | (simp; done) | cases hx) hb20.1 hb20.2.1 (by rw [List.length_map]; exact hb20.2.2) (by simp [List.map_take, List.map_drop, List.take_of_length_le])) rfl rfl rfl ?_
   refine .a rfl ?_
   refine .z ?_
   refine .m rfl ?_
   refine .m rfl ?_
   obtain ⟨hb21, h⟩ := ifp h
   refine .w (f_appendC (m := ((z0_1 ++ ((y18.1).take ((if (if (IntKind.i64.wrap (a2 - ((z0_1).length : Int))) < ((y18.1).length : Int) then (IntKind.i64.wrap (a2 - ((z0_1).length : Int))) else ((y18.1).length : Int)) > (0 : Int) then (if (IntKind.i64.wrap (a2 - ((z0_1).length : Int))) < ((y18.1).length : Int) then (IntKind.i64.wrap (a2 - ((z0_1).length : Int))) else ((y18.1).length : Int)) else (0 : Int))).toNat))).length) (ys := (((y18.1).take ((if (if (IntKind.i64.wrap (a2 - ((z0_1).length : Int))) < ((y18.1).length : Int) then (IntKind.i64.wrap (a2 - ((z0_1).length : Int))) else ((y18.1).length : Int)) > (0 : Int) then (if (IntKind.i64.wrap (a2 - ((z0_1).length : Int))) < ((y18.1).length : Int) then (IntKind.i64.wrap (a2 - ((z0_1).length : Int))) else ((y18.1).length : Int)) else (0 : Int))).toNat) : List GTx).map eGTx) (xs := (z0_1).map eGTx) (zs := ((z0_1 ++ ((y18.1).take ((if (if (IntKind.i64.wrap (a2 - ((z0_1).length : Int))) < ((y18.1).length : Int) then (IntKind.i64.wrap (a2 - ((z0_1).length : Int))) else ((y18.1).length : Int)) > (0 : Int) then (if (IntKind.i64.wrap (a2 - ((z0_1).length : Int))) < ((y18.1).length : Int) then (IntKind.i64.wrap (a2 - ((z0_1).length : Int))) else ((y18.1).length : Int)) else (0 : Int))).toNat))).map eGTx) 1149 (by rfl) el28 (by simp) (by simp) (by simp [List.map_drop]) (by simp) (Nat.le_trans (Nat.mul_le_mul_right _ hb21) (by decide)) (Nat.le_trans hb21 (by decide)) srcD) rfl (.c rfl (.c rfl .nil)) (.cons rfl .nil) (.cons rfl .nil) ?_
   refine .a rfl ?_
   refine .z ?_
   refine .v1 (f_fieldAddr (n := 32) (by rfl) fl69_1 (by decide)) rfl rfl ?_
   refine .l 14 (0 + 32) [1] (.d (eGLine y16.1)) (.d (eL28 y16.1.Txs)) ty28 ?_
   refine .m rfl ?_
   refine .v1 (f_lenD (n := (((y18.1).take ((if (if (IntKind.i64.wrap (a2 - ((z0_1).length : Int))) < ((y18.1).length : Int) then (IntKind.i64.wrap (a2 - ((z0_1).length : Int))) else ((y18.1).length : Int)) > (0 : Int) then (if (IntKind.i64.wrap (a2 - ((z0_1).length : Int))) < ((y18.1).length : Int) then (IntKind.i64.wrap (a2 - ((z0_1).length : Int))) else ((y18.1).length : Int)) else (0 : Int))).toNat)).length) (by rfl) sl28 rfl (by simp)) rfl rfl ?_
   obtain ⟨hb22, h⟩ := ifp h
   refine .v2 (f_sliceD (k1 := .i64) (k2 := .i64) (i := ((((y18.1).take ((if (if (IntKind.i64.wrap (a2 - ((z0_1).length : Int))) < ((y18.1).length : Int) then (IntKind.i64.wrap (a2 - ((z0_1).length : Int))) else ((y18.1).length : Int)) > (0 : Int) then (if (IntKind.i64.wrap (a2 - ((z0_1).length : Int))) < ((y18.1).length : Int) then (IntKind.i64.wrap (a2 - ((z0_1).length : Int))) else ((y18.1).length : Int)) else (0 : Int))).toNat)).length : Int)) (j := ((y16.1.Txs).length : Int)) (xs := (y16.1.Txs).map eGTx) (zs := ((y16.1.Txs).drop (((((y18.1).take ((if (if (IntKind.i64.wrap (a2 - ((z0_1).length : Int))) < ((y18.1).length : Int) then (IntKind.i64.wrap (a2 - ((z0_1).length : Int))) else ((y18.1).length : Int)) > (0 : Int) then (if (IntKind.i64.wrap (a2 - ((z0_1).length : Int))) < ((y18.1).length : Int) then (IntKind.i64.wrap (a2 - ((z0_1).length : Int))) else ((y18.1).length : Int)) else (0 : Int))).toNat)).length : Int)).toNat).map eGTx) (by rfl) sl28 (by intro hx; first | rfl | cases hx) (by intro hx; first | (simp; done) | cases hx) hb22.1 hb22.2.1 (by rw [List.length_map]; exact hb22.2.2) (by simp [List.map_take, List.map_drop, List.take_of_length_le])) rfl rfl rfl ?_
   refine .v1 (f_fieldAddr (n := 32) (by rfl) fl69_1 (by decide)) rfl rfl ?_
   refine .s (f_store (n := 0) (o := 14) (off := (0 + 32)) (p := [1]) (c := .d (eGLine y16.1)) (old := .d (eL28 y16.1.Txs)) (z := .d (eL28 ((y16.1.Txs).drop (((((y18.1).take ((if (if (IntKind.i64.wrap (a2 - ((z0_1).length : Int))) < ((y18.1).length : Int) then (IntKind.i64.wrap (a2 - ((z0_1).length : Int))) else ((y18.1).length : Int)) > (0 : Int) then (if (IntKind.i64.wrap (a2 - ((z0_1).length : Int))) < ((y18.1).length : Int) then (IntKind.i64.wrap (a2 - ((z0_1).length : Int))) else ((y18.1).length : Int)) else (0 : Int))).toNat)).length : Int)).toNat))) (c' := .d (eGLine ({ y16.1 with Txs := ((y16.1.Txs).drop (((((y18.1).take ((if (if (IntKind.i64.wrap (a2 - ((z0_1).length : Int))) < ((y18.1).length : Int) then (IntKind.i64.wrap (a2 - ((z0_1).length : Int))) else ((y18.1).length : Int)) > (0 : Int) then (if (IntKind.i64.wrap (a2 - ((z0_1).length : Int))) < ((y18.1).length : Int) then (IntKind.i64.wrap (a2 - ((z0_1).length : Int))) else ((y18.1).length : Int)) else (0 : Int))).toNat)).length : Int)).toNat) }))) rfl rfl (by rfl) ty28 (by rfl)) rfl (.c rfl (.c rfl .nil)) (.cons rfl .nil) ?_
   refine .nil (aq_then ?_)
   refine aw_r ?_
   refine .m rfl ?_
   refine .l 14 0 [] (.d (eGLine ({ y16.1 with Txs := ((y16.1.Txs).drop (((((y18.1).take ((if (if (IntKind.i64.wrap (a2 - ((z0_1).length : Int))) < ((y18.1).length : Int) then (IntKind.i64.wrap (a2 - ((z0_1).length : Int))) else ((y18.1).length : Int)) > (0 : Int) then (if (IntKind.i64.wrap (a2 - ((z0_1).length : Int))) < ((y18.1).length : Int) then (IntKind.i64.wrap (a2 - ((z0_1).length : Int))) else ((y18.1).length : Int)) else (0 : Int))).toNat)).length : Int)).toNat) }))) (.d (eGLine ({ y16.1 with Txs := ((y16.1.Txs).drop (((((y18.1).take ((if (if (IntKind.i64.wrap (a2 - ((z0_1).length : Int))) < ((y18.1).length : Int) then (IntKind.i64.wrap (a2 - ((z0_1).length : Int))) else ((y18.1).length : Int)) > (0 : Int) then (if (IntKind.i64.wrap (a2 - ((z0_1).length : Int))) < ((y18.1).length : Int) then (IntKind.i64.wrap (a2 - ((z0_1).length : Int))) else ((y18.1).length : Int)) else (0 : Int))).toNat)).length : Int)).toNat) }))) ty69 ?_
   obtain ⟨y23, hy24, h⟩ := bind_some h
   refine .w (f_callG (xs := [.ptr 31 0 [], .d (eGLine ({ y16.1 with Txs := ((y16.1.Txs).drop (((((y18.1).take ((if (if (IntKind.i64.wrap (a2 - ((z0_1).length : Int))) < ((y18.1).length : Int) then (IntKind.i64.wrap (a2 - ((z0_1).length : Int))) else ((y18.1).length : Int)) > (0 : Int) then (if (IntKind.i64.wrap (a2 - ((z0_1).length : Int))) < ((y18.1).length : Int) then (IntKind.i64.wrap (a2 - ((z0_1).length : Int))) else ((y18.1).length : Int)) else (0 : Int))).toNat)).length : Int)).toNat) }))]) (r := .res []) (hw := [(31, .av (.st [.st [.slc 1150 0 ((y23).length) 33]])), (1143, .dead), (1150, .av (.d (.arr 33 ((y23).length) ((y23).map eGLine))))]) (fun i => bif Nat.beq i 1102 then 1150 else (bif Nat.beq i 1 then 1143 else (bif Nat.beq i 0 then 31 else i))) [] hgl (by rfl) (cal_f en36) rfl (by rfl) (by rfl) (by rfl) (by rfl) (.cons (.same _) (.cons (.same _) .nil)) rfl rfl rfl rfl (F36_shard_part_set_08b_ok hy24)) rfl (.c rfl (.c rfl .nil)) (.cons rfl (.cons rfl .nil)) (.cons rfl .nil) ?_
   refine .nil ?_
   refine aq_block ?_
   refine aq_then ?_
   refine aw_r ?_
   refine .b rfl rfl rfl ?_
   refine .m rfl ?_
   refine .nil ?_
   obtain rfl := Option.some.inj h
   refine aq_weak (s' := ⟨[(2, .I a2), (4, .ptr 4 0 []), (6, .ptr 6 0 []), (7, .slc 1146 0 (((z0_1 ++ ((y18.1).take ((if (if (IntKind.i64.wrap (a2 - ((z0_1).length : Int))) < ((y18.1).length : Int) then (IntKind.i64.wrap (a2 - ((z0_1).length : Int))) else ((y18.1).length : Int)) > (0 : Int) then (if (IntKind.i64.wrap (a2 - ((z0_1).length : Int))) < ((y18.1).length : Int) then (IntKind.i64.wrap (a2 - ((z0_1).length : Int))) else ((y18.1).length : Int)) else (0 : Int))).toNat))).length) 99), (9, .ptr 31 0 []), (33, .d (eL22 a0.Lines)), (34, .I ((a0.Lines).length : Int)), (35, .I (IntKind.i64.wrap (z0_0 + (1 : Int))))], [(4, .av (.d (eGTree a1))), (6, .av (.st [.N])), (1146, .av (.d (.arr 99 (((z0_1 ++ ((y18.1).take ((if (if (IntKind.i64.wrap (a2 - ((z0_1).length : Int))) < ((y18.1).length : Int) then (IntKind.i64.wrap (a2 - ((z0_1).length : Int))) else ((y18.1).length : Int)) > (0 : Int) then (if (IntKind.i64.wrap (a2 - ((z0_1).length : Int))) < ((y18.1).length : Int) then (IntKind.i64.wrap (a2 - ((z0_1).length : Int))) else ((y18.1).length : Int)) else (0 : Int))).toNat))).length) (((z0_1 ++ ((y18.1).take ((if (if (IntKind.i64.wrap (a2 - ((z0_1).length : Int))) < ((y18.1).length : Int) then (IntKind.i64.wrap (a2 - ((z0_1).length : Int))) else ((y18.1).length : Int)) > (0 : Int) then (if (IntKind.i64.wrap (a2 - ((z0_1).length : Int))) < ((y18.1).length : Int) then (IntKind.i64.wrap (a2 - ((z0_1).length : Int))) else ((y18.1).length : Int)) else (0 : Int))).toNat))).map eGTx)))), (31, .av (.st [.st [.slc 1143 0 ((y23).length) 33]])), (1143, .av (.d (.arr 33 ((y23).length) ((y23).map eGLine))))], []⟩) (fun i => (bif Nat.beq i 1143 then 1150 else (bif Nat.beq i 1146 then 1149 else i))) hb0 (.cons rfl (.cons rfl (.cons rfl (.cons rfl (.cons rfl (.cons rfl (.cons rfl (.cons rfl .nil)))))))) (.cons rfl (.cons rfl (.cons rfl (.cons rfl (.cons rfl .nil))))) rfl (by rfl) ?_
   exact jq
  replace h := ite_f hc10 h
  refine aw_exit ?_
  refine aq_then_exit ?_
  obtain rfl := Option.some.inj h
  refine aq_k hb0 (.k 6 rfl (.k 7 rfl (.k 9 rfl .nil))) (.k 6 rfl (.k 1146 rfl (.k 31 rfl (.k 1143 rfl .nil)))) ?_
  exact jq
 refine aq_block_exit ?_
 refine aq_then ?_
 refine aw_rs ?_
 refine .m rfl ?_
 refine .v1 (f_nilCheck (by rfl)) rfl rfl ?_
 refine .v1 (f_fieldAddr (n := 0) (by rfl) fl78_0 (by decide)) rfl rfl ?_
 refine .l 31 (0 + 0) [0] (.st [.st [.slc 1143 0 ((o25.2).length) 33]]) (.st [.slc 1143 0 ((o25.2).length) 33]) ty24 ?_
 refine .m rfl ?_
 refine .s (f_store (n := 0) (o := 6) (off := 0) (p := []) (c := .st [.N]) (old := .st [.N]) (z := .st [.slc 1143 0 ((o25.2).length) 33]) (c' := .st [.slc 1143 0 ((o25.2).length) 33]) rfl rfl (by rfl) ty24 (by rfl)) rfl (.c rfl (.c rfl .nil)) (.cons rfl .nil) ?_
 refine .a rfl ?_
 refine .a rfl ?_
 refine .nil (aq_then ?_)
 refine aw_ret ?_
 obtain rfl := Option.some.inj h
 refine aq_freezeH [(1146, (.arr 99 ((o25.1).length) ((o25.1).map eGTx))), (1143, (.arr 33 ((o25.2).length) ((o25.2).map eGLine)))] [(6, .ptr 6 0 []), (7, .d (eL28 o25.1)), (8, .I (0 : Int))] [(6, .av (.d (eGShard (⟨o25.2⟩ : GShard)))), (31, .av (.d (eGshard_part (⟨(⟨o25.2⟩ : GShard)⟩ : Gshard_part))))] (.cons rfl (.cons rfl .nil)) (.keep rfl (.cons rfl (.whole (.head _)) (.keep rfl .nil))) (.cons rfl (by rfl) (.st (.cons (.whole (.tail _ (.head _))) .nil)) (.cons rfl (by rfl) (.st (.cons (.st (.cons (.whole (.tail _ (.head _))) .nil)) .nil)) .nil)) ?_
 exact aq_finp hb0 rfl (.cell rfl rfl ty24 (by rfl) (.tmp rfl (by rfl) (.tmp rfl (by rfl) .nil))) (by rfl) rfl ⟨rfl, rfl⟩
def F55_pool_Draw_1_998 (n : Nat) (a0 : GShard) (a1 : GTree) (a2 : Int) : Option ((List GTx) × Int × GShard) :=
  ((F9_shard_Draw n a0 a1 a2).bind fun (y1 : GShard × (List GTx) × Int) => some (y1.2.1, y1.2.2, y1.1))
theorem F55_pool_Draw_1_998_ok {n : Nat} {a0 : GShard} {a1 : GTree} {a2 : Int} {r : (List GTx) × Int × GShard} (h : F55_pool_Draw_1_998 n a0 a1 a2 = some r) :
    ACall Tryz.prog GS 55 [.d (eGShard a0), .ptr 0 0 [], .ptr 1 0 []] [(0, .av (.d (eGTree a1))), (1, .av (.I a2))] (fun r' hp' => r' = .res [.d (eGShard r.2.2), .d (eL28 r.1), .I r.2.1] ∧ hp' = [(4, .av (.d (eGShard r.2.2))), (0, .av (.d (eGTree a1))), (1, .av (.I a2))]) := by
 refine acall_of_body mixed Tryz.func55 rfl (by rfl) ?_
 intro C hro hgl hb0
 unfold F55_pool_Draw_1_998 at h
 refine aw_rs ?_
 refine .n (f_box 3 (by rfl) (by rfl)) rfl (.c rfl .nil) rfl ?_
 refine .n (f_alloc 4 (by rfl) zrv24) rfl .nil rfl ?_
 refine .a rfl ?_
 refine .a rfl ?_
 refine .z ?_
 refine .l 3 0 [] (.d (eGShard a0)) (.d (eGShard a0)) ty24 ?_
 refine .l 0 0 [] (.d (eGTree a1)) (.d (eGTree a1)) ty27 ?_
 refine .l 1 0 [] (.I a2) (.I a2) ty3 ?_
 obtain ⟨y1, hy2, h⟩ := bind_some h
 refine .v (f_callP hgl (by rfl) en9 rfl (by rfl) (by rfl) (by rfl) (F9_shard_Draw_ok hy2)) rfl (.c rfl (.c rfl (.c rfl .nil))) .nil ?_
 refine .v1 (f_extract (by rfl) rfl) rfl rfl ?_
 refine .v1 (f_extract (by rfl) rfl) rfl rfl ?_
 refine .v1 (f_extract (by rfl) rfl) rfl rfl ?_
 refine .s (f_store (n := 0) (o := 4) (off := 0) (p := []) (c := .st [.N]) (old := .st [.N]) (z := .d (eGShard y1.1)) (c' := .d (eGShard y1.1)) rfl rfl (by rfl) ty24 (by rfl)) rfl (.c rfl (.c rfl .nil)) (.cons rfl .nil) ?_
 refine .a rfl ?_
 refine .a rfl ?_
 refine .nil (aq_then ?_)
 refine aw_ret ?_
 obtain rfl := Option.some.inj h
 refine aq_k hb0 (.k 4 rfl (.k 5 rfl (.k 6 rfl .nil))) (.k 4 rfl (.k 0 rfl (.k 1 rfl .nil))) ?_
 exact aq_fin1 (.cell rfl rfl ty24 (by rfl) (.tmp rfl (by rfl) (.tmp rfl (by rfl) .nil))) rfl ⟨rfl, rfl⟩
def F50_api_Tx_2f9 (n : Nat) (a0 : (List GShard)) (a1 : Int) (a2 : GTree) (a3 : Int) : Option ((List GShard) × (List GTx) × Int) :=
  (((if (decide (a1 < (0 : Int))) = true then some true else some (decide (a1 ≥ ((a0).length : Int))))).bind fun (o2 : Bool) => (if o2 = true then some ([], [], (2 : Int)) else ((rd a0 a1).bind fun (x4 : GShard) => ((F55_pool_Draw_1_998 n x4 a2 a3).bind fun (y7 : (List GTx) × Int × GShard) => (if (y7.2.1 != (0 : Int)) = true then some ([], [], y7.2.1) else ((F97_pool_Twin n a0).bind fun (y10 : List GShard) => ((rd y10 a1).bind fun (x12 : GShard) => some ((y10.set (0 + (a1).toNat) y7.2.2), y7.1, (0 : Int)))))))))
theorem F50_api_Tx_2f9_ok {n : Nat} {a0 : (List GShard)} {a1 : Int} {a2 : GTree} {a3 : Int} {r : (List GShard) × (List GTx) × Int} (h : F50_api_Tx_2f9 n a0 a1 a2 a3 = some r) :
    ACall Tryz.prog GS 50 [.d (eL45 a0), .I a1, .fn (.func 55) [] [.ptr 0 0 [], .ptr 1 0 []]] [(0, .av (.d (eGTree a2))), (1, .av (.I a3))] (fun r' hp' => r' = .res [.d (eL45 r.1), .d (eL28 r.2.1), .I r.2.2] ∧ hp' = [(0, .av (.d (eGTree a2))), (1, .av (.I a3))]) := by
 refine acall_of_body mixed Tryz.func50 rfl (by rfl) ?_
 intro C hro hgl hb0
 unfold F50_api_Tx_2f9 at h
 refine aw_rs ?_
 refine .a rfl ?_
 refine .a rfl ?_
 refine .a rfl ?_
 refine .z ?_
 refine .a rfl ?_
 refine .nil (aq_then ?_)
 refine aw_seq ?_
 refine aw_seq ?_
 obtain ⟨o2, ho15, h⟩ := bind_some h
 refine aw_join (.normal) ⟨[(0, .d (eL45 a0)), (1, .I a1), (2, .fn (.func 55) [] [.ptr 0 0 [], .ptr 1 0 []]), (9, .N), (18, .B o2)], [(0, .av (.d (eGTree a2))), (1, .av (.I a3))], []⟩ ?_ ?_
 ·replace h := ho15
  refine aw_r ?_
  refine .m rfl ?_
  refine .b rfl rfl rfl ?_
  refine .m rfl ?_
  rcases Bool.eq_false_or_eq_true (decide (a1 < (0 : Int))) with hc1 | hc1
  ·replace h := ite_t hc1 h
   refine .q rfl rfl rfl hc1 rfl ?_
   refine .q rfl rfl rfl hc1 rfl ?_
   refine .q rfl rfl rfl hc1 rfl ?_
   refine .q rfl rfl rfl hc1 rfl ?_
   refine .v2 (f_pick_true (by rfl) hc1) rfl rfl rfl ?_
   refine .nil ?_
   obtain rfl := Option.some.inj h
   refine aq_k hb0 (.k 0 rfl (.k 1 rfl (.k 2 rfl (.k 9 rfl (.k 18 rfl .nil))))) (.k 0 rfl (.k 1 rfl .nil)) ?_
   exact jq
  replace h := ite_f hc1 h
  refine .g1 (f_move (by rfl)) rfl rfl rfl hc1 rfl ?_
  refine .g1 (f_move (by rfl)) rfl rfl rfl hc1 rfl ?_
  refine .g1 (f_lenD (n := (a0).length) (by rfl) sl45 rfl (by simp)) rfl rfl rfl hc1 rfl ?_
  refine .g2 (f_binI (by rfl) rfl (by rfl)) rfl rfl rfl hc1 rfl rfl ?_
  refine .v2 (f_pick_false (by rfl) hc1) rfl rfl rfl ?_
  refine .nil ?_
  obtain rfl := Option.some.inj h
  refine aq_k hb0 (.k 0 rfl (.k 1 rfl (.k 2 rfl (.k 9 rfl (.k 18 rfl .nil))))) (.k 0 rfl (.k 1 rfl .nil)) ?_
  exact jq
 refine aq_then ?_
 refine aw_cond rfl (fun hc3 => ?_) (fun hc3 => ?_)
 ·replace h := ite_t hc3 h
  refine aw_rs ?_
  refine .m rfl ?_
  refine .a rfl ?_
  refine .a rfl ?_
  refine .a rfl ?_
  refine .nil (aq_then ?_)
  refine aw_ret ?_
  refine aq_then_ret ?_
  obtain rfl := Option.some.inj h
  refine aq_freeze [] [(6, .d (eL45 ([]))), (7, .d (eL28 ([]))), (8, .I (2 : Int))] .nil (.cons rfl .nil (.cons rfl .nil (.keep rfl .nil))) ?_
  refine aq_k hb0 (.k 6 rfl (.k 7 rfl (.k 8 rfl .nil))) (.k 0 rfl (.k 1 rfl .nil)) ?_
  exact aq_fin1 (.tmp rfl (by rfl) (.tmp rfl (by rfl) (.tmp rfl (by rfl) .nil))) rfl ⟨rfl, rfl⟩
 replace h := ite_f hc3 h
 refine aw_skip ?_
 refine aq_then ?_
 refine aw_rs ?_
 refine .m rfl ?_
 refine .m rfl ?_
 refine .m rfl ?_
 obtain ⟨x4, hx5, h⟩ := bind_some h
 obtain ⟨hx6, hx5⟩ := rd_some hx5
 refine .v2 (f_indexS (by rfl) sl45 hx6 (rd_map _ hx5)) rfl rfl rfl ?_
 refine .v1 (f_loadR (z := (eGShard x4)) (by rfl) ty24) rfl rfl ?_
 obtain ⟨y7, hy8, h⟩ := bind_some h
 refine .w (f_callG (xs := [.d (eGShard x4)]) (r := .res [.d (eGShard y7.2.2), .d (eL28 y7.1), .I y7.2.1]) (hw := [(1151, .av (.d (eGShard y7.2.2))), (0, .av (.d (eGTree a2))), (1, .av (.I a3))]) (fun i => bif Nat.beq i 4 then 1151 else i) [] hgl (by rfl) (cal_v (first := []) (caps := [.ptr 0 0 [], .ptr 1 0 []]) en55) rfl (by rfl) (by rfl) (by rfl) (by rfl) (.cons (.same _) (.cons (.same _) (.cons (.same _) .nil))) rfl rfl rfl rfl (F55_pool_Draw_1_998_ok hy8)) rfl (.c rfl (.c rfl .nil)) (.cons rfl (.cons rfl .nil)) (.cons rfl .nil) ?_
 refine .m rfl ?_
 refine .v1 (f_extract (by rfl) rfl) rfl rfl ?_
 refine .v1 (f_extract (by rfl) rfl) rfl rfl ?_
 refine .v1 (f_extract (by rfl) rfl) rfl rfl ?_
 refine .n (f_alloc 10 (by rfl) zrv24) rfl .nil rfl ?_
 refine .s (f_store (n := 0) (o := 10) (off := 0) (p := []) (c := .st [.N]) (old := .st [.N]) (z := .d (eGShard y7.2.2)) (c' := .d (eGShard y7.2.2)) rfl rfl (by rfl) ty24 (by rfl)) rfl (.c rfl (.c rfl .nil)) (.cons rfl .nil) ?_
 refine .a rfl ?_
 refine .a rfl ?_
 refine .nil (aq_then ?_)
 refine aw_seq ?_
 refine aw_rs ?_
 refine .m rfl ?_
 refine .b rfl rfl rfl ?_
 refine .nil (aq_then ?_)
 refine aw_cond rfl (fun hc9 => ?_) (fun hc9 => ?_)
 ·replace h := ite_t hc9 h
  refine aw_rs ?_
  refine .m rfl ?_
  refine .m rfl ?_
  refine .a rfl ?_
  refine .a rfl ?_
  refine .a rfl ?_
  refine .nil (aq_then ?_)
  refine aw_ret ?_
  refine aq_then_ret ?_
  obtain rfl := Option.some.inj h
  refine aq_freeze [] [(7, .d (eL28 ([]))), (8, .I y7.2.1), (6, .d (eL45 ([])))] .nil (.cons rfl .nil (.keep rfl (.cons rfl .nil .nil))) ?_
  refine aq_k hb0 (.k 6 rfl (.k 7 rfl (.k 8 rfl .nil))) (.k 0 rfl (.k 1 rfl .nil)) ?_
  exact aq_fin1 (.tmp rfl (by rfl) (.tmp rfl (by rfl) (.tmp rfl (by rfl) .nil))) rfl ⟨rfl, rfl⟩
 replace h := ite_f hc9 h
 refine aw_skip ?_
 refine aq_then ?_
 refine aw_rs ?_
 refine .m rfl ?_
 obtain ⟨y10, hy11, h⟩ := bind_some h
 refine .w (f_callG (xs := [.d (eL45 a0)]) (r := .slc 1152 0 ((y10).length) 1) (hw := [(1152, .av (.d (.arr 1 ((y10).length) ((y10).map eGShard))))]) (fun i => bif Nat.beq i 1082 then 1152 else i) [] hgl (by rfl) (cal_f en97) rfl (by rfl) (by rfl) (by rfl) (by rfl) (.cons (.same _) .nil) rfl rfl rfl rfl (F97_pool_Twin_ok hy11)) rfl (.c rfl .nil) .nil (.cons rfl .nil) ?_
 refine .a rfl ?_
 refine .z ?_
 refine .m rfl ?_
 refine .m rfl ?_
 refine .l 10 0 [] (.d (eGShard y7.2.2)) (.d (eGShard y7.2.2)) ty24 ?_
 obtain ⟨x12, hx13, h⟩ := bind_some h
 obtain ⟨hx14, hx13⟩ := rd_some hx13
 refine .v (f_indexSW (by rfl) sl45 hx14 (rd_map _ hx13)) rfl (.c rfl (.c rfl .nil)) (.cons rfl .nil) ?_
 refine .s (f_store (n := 0) (o := 1152) (off := ((0 + (a1).toNat) * 1)) (p := [0 + (a1).toNat]) (c := .d (.arr 1 ((y10).length) ((y10).map eGShard))) (old := .d (eGShard x12)) (z := .d (eGShard y7.2.2)) (c' := .d (.arr 1 ((y10).length) (((y10.set (0 + (a1).toNat) y7.2.2)).map eGShard))) (at_map _ (by simpa using hx13) rfl) (put_map _ (by simpa using hx13)) (by rfl) ty24 (by rfl)) rfl (.c rfl (.c rfl .nil)) (.cons rfl .nil) ?_
 refine .z ?_
 refine .m rfl ?_
 refine .m rfl ?_
 refine .a rfl ?_
 refine .a rfl ?_
 refine .a rfl ?_
 refine .nil (aq_then ?_)
 refine aw_ret ?_
 obtain rfl := Option.some.inj h
 refine aq_freeze [(1152, (.arr 1 ((y10).length) (((y10.set (0 + (a1).toNat) y7.2.2)).map eGShard)))] [(7, .d (eL28 y7.1)), (8, .I (0 : Int)), (6, .d (eL45 (y10.set (0 + (a1).toNat) y7.2.2)))] (.cons rfl .nil) (.keep rfl (.keep rfl (.cons rfl (.whole (.head _)) .nil))) ?_
 refine aq_k hb0 (.k 6 rfl (.k 7 rfl (.k 8 rfl .nil))) (.k 0 rfl (.k 1 rfl .nil)) ?_
 exact aq_fin1 (.tmp rfl (by rfl) (.tmp rfl (by rfl) (.tmp rfl (by rfl) .nil))) rfl ⟨rfl, rfl⟩
def F20_pool_Draw (n : Nat) (a0 : (List GShard)) (a1 : Int) (a2 : GTree) (a3 : Int) : Option ((List GShard) × (List GTx) × Int) :=
  ((F49_pool_asked n a0 a2).bind fun (y1 : Int) => (if (y1 != (0 : Int)) = true then some ([], [], y1) else ((F50_api_Tx_2f9 n a0 a1 a2 a3).bind fun (y4 : (List GShard) × (List GTx) × Int) => some (y4.1, y4.2.1, y4.2.2))))
theorem F20_pool_Draw_ok {n : Nat} {a0 : (List GShard)} {a1 : Int} {a2 : GTree} {a3 : Int} {r : (List GShard) × (List GTx) × Int} (h : F20_pool_Draw n a0 a1 a2 a3 = some r) :
    ACall Tryz.prog GS 20 [.d (eL45 a0), .I a1, .d (eGTree a2), .I a3] [] (fun r' hp' => r' = .res [.d (eL45 r.1), .d (eL28 r.2.1), .I r.2.2] ∧ hp' = []) := by
 refine acall_of_body mixed Tryz.func20 rfl (by rfl) ?_
 intro C hro hgl hb0
 unfold F20_pool_Draw at h
 refine aw_rs ?_
 refine .n (f_box 6 (by rfl) (by rfl)) rfl (.c rfl .nil) rfl ?_
 refine .n (f_box 7 (by rfl) (by rfl)) rfl (.c rfl .nil) rfl ?_
 refine .a rfl ?_
 refine .a rfl ?_
 refine .a rfl ?_
 refine .nil (aq_then ?_)
 refine aw_seq ?_
 refine aw_rs ?_
 refine .m rfl ?_
 refine .l 6 0 [] (.d (eGTree a2)) (.d (eGTree a2)) ty27 ?_
 obtain ⟨y1, hy2, h⟩ := bind_some h
 refine .v2 (f_callP hgl (by rfl) en49 rfl (by rfl) (by rfl) (by rfl) (F49_pool_asked_ok hy2)) rfl rfl rfl ?_
 refine .a rfl ?_
 refine .z ?_
 refine .m rfl ?_
 refine .b rfl rfl rfl ?_
 refine .nil (aq_then ?_)
 refine aw_cond rfl (fun hc3 => ?_) (fun hc3 => ?_)
 ·replace h := ite_t hc3 h
  refine aw_rs ?_
  refine .m rfl ?_
  refine .a rfl ?_
  refine .a rfl ?_
  refine .a rfl ?_
  refine .nil (aq_then ?_)
  refine aw_ret ?_
  refine aq_then_ret ?_
  obtain rfl := Option.some.inj h
  refine aq_freeze [] [(8, .d (eL45 ([]))), (9, .d (eL28 ([]))), (10, .I y1)] .nil (.cons rfl .nil (.cons rfl .nil (.keep rfl .nil))) ?_
  exact aq_finp hb0 rfl (.tmp rfl (by rfl) (.tmp rfl (by rfl) (.tmp rfl (by rfl) .nil))) (by rfl) rfl ⟨rfl, rfl⟩
 replace h := ite_f hc3 h
 refine aw_skip ?_
 refine aq_then ?_
 refine aw_rs ?_
 refine .m rfl ?_
 refine .m rfl ?_
 refine .v2 (f_makeFunc (xs := []) (ys := [.ptr 6 0 [], .ptr 7 0 []]) (by rfl) rfl rfl (by rfl) (by rfl)) rfl rfl rfl ?_
 obtain ⟨y4, hy5, h⟩ := bind_some h
 refine .w (f_callG0 (xs := [.d (eL45 a0), .I a1, .fn (.func 55) [] [.ptr 6 0 [], .ptr 7 0 []]]) (r := .res [.d (eL45 y4.1), .d (eL28 y4.2.1), .I y4.2.2]) (fun i => bif Nat.beq i 1 then 7 else (bif Nat.beq i 0 then 6 else i)) [] hgl (by rfl) (cal_f en50) rfl (by rfl) (by rfl) (by rfl) (by rfl) (.cons (.same _) (.cons (.same _) (.cons (.same _) .nil))) rfl rfl (F50_api_Tx_2f9_ok hy5)) rfl (.c rfl (.c rfl (.c rfl .nil))) (.cons rfl (.cons rfl .nil)) .nil ?_
 refine .v1 (f_extract (by rfl) rfl) rfl rfl ?_
 refine .v1 (f_extract (by rfl) rfl) rfl rfl ?_
 refine .v1 (f_extract (by rfl) rfl) rfl rfl ?_
 refine .a rfl ?_
 refine .a rfl ?_
 refine .a rfl ?_
 refine .nil (aq_then ?_)
 refine aw_ret ?_
 obtain rfl := Option.some.inj h
 exact aq_finp hb0 rfl (.tmp rfl (by rfl) (.tmp rfl (by rfl) (.tmp rfl (by rfl) .nil))) (by rfl) rfl ⟨rfl, rfl⟩
end Go.Proofs.YtonfljoibcnlgaaGreatDoor
