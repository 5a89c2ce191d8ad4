/-
  PRINTED by wip/pr3.py: for each Go function a Lean function with the same answers, and the proof.
-/
import Derived.Test.YtonfljoibcnlgaaDoorXb1
namespace Go.Proofs.YtonfljoibcnlgaaDoor
open Bd
set_option maxRecDepth 10000

/- 93: (*beadroll/shard.part).line -/
def F93_shard_part_line_ec6 (n : Nat) (a0 : (List Int)) (a1 : (List GLine)) : Option (GLine) :=
  ((F119_shard_part_find_363 n a0 a1).bind fun (y1 : Int × Bool) => (if (!y1.2) = true then some (⟨a0, []⟩ : GLine) else ((rd a1 y1.1).bind fun (x4 : GLine) => some x4)))
theorem F93_shard_part_line_ec6_ok {n : Nat} {a0 : (List Int)} {a1 : (List GLine)} {r : GLine} (h : F93_shard_part_line_ec6 n a0 a1 = some r) :
    ACall Tryd.prog GS 93 [.ptr 0 0 [], .d (eA22 a0)] [(0, .av (.st [.st [.slc 1 0 ((a1).length) 33]])), (1, .av (.d (.arr 33 ((a1).length) ((a1).map eGLine))))] (fun r' hp' => r' = .d (eGLine r) ∧ hp' = [(4, .av (.d (eGLine r))), (0, .av (.st [.st [.slc 1 0 ((a1).length) 33]])), (1, .av (.d (.arr 33 ((a1).length) ((a1).map eGLine))))]) := by
 refine acall_of_body mixed Tryd.func93 rfl (by rfl) ?_
 intro C hro hgl hb0
 unfold F93_shard_part_line_ec6 at h
 refine aw_rs ?_
 refine .n (f_box 3 (by rfl) (by rfl)) rfl (.c rfl .nil) rfl ?_
 refine .n (f_alloc 4 (by rfl) zrv26) rfl .nil rfl ?_
 refine .nil (aq_then ?_)
 refine aw_rs ?_
 refine .mv rfl (by rfl) ?_
 refine .v (f_load (n := 0) (o := 3) (off := 0) (p := []) (c := .d (eA22 a0)) (z := .d (eA22 a0)) (by rfl) rfl ty23 (by rfl)) rfl (.c rfl .nil) (.cons rfl .nil) ?_
 obtain ⟨y1, hy2, h⟩ := bind_some h
 refine .w (f_callG0 (xs := [.ptr 0 0 [], .d (eA22 a0)]) (r := .res [.d (.val (.int .i64 y1.1)), .d (.val (.bool y1.2))]) (fun i => i) [] hgl (by rfl) (cal_f en119) rfl (by rfl) (by rfl) (by rfl) (by rfl) (.cons (.same _) (.cons (.same _) .nil)) rfl rfl (F119_shard_part_find_363_ok hy2)) rfl (.c rfl (.c rfl .nil)) (.cons rfl (.cons rfl .nil)) .nil ?_
 refine .mv rfl (by rfl) ?_
 refine .v (f_extract (by rfl) rfl) rfl (.c rfl .nil) .nil ?_
 refine .v (f_extract (by rfl) rfl) rfl (.c rfl .nil) .nil ?_
 refine .as rfl (by rfl) ?_
 refine .as rfl (by rfl) ?_
 refine .nil (aq_then ?_)
 refine aw_seq ?_
 refine aw_rs ?_
 refine .mv rfl (by rfl) ?_
 refine .v (f_not (by rfl)) rfl (.c rfl .nil) .nil ?_
 refine .nil (aq_then ?_)
 refine aw_cond rfl (fun hc3 => ?_) (fun hc3 => ?_)
 · replace h := ite_t hc3 h
   refine aw_rs ?_
   refine .v (f_load (n := 0) (o := 3) (off := 0) (p := []) (c := .d (eA22 a0)) (z := .d (eA22 a0)) (by rfl) rfl ty23 (by rfl)) rfl (.c rfl .nil) (.cons rfl .nil) ?_
   refine .v (f_build (xs := [(0, .d (eA22 a0))]) (z' := .st [.d (eA22 a0), .d (.val (.slice none 0 0))]) (by rfl) zrv26 ag26 rfl (by rfl) ⟨_, _, _, rfl, pl26_0, rfl, rfl, trivial⟩ (by rfl) (by rfl)) rfl (.c rfl .nil) .nil ?_
   refine .s (f_store (n := 0) (o := 4) (off := 0) (p := []) (c := .st [.d (eA22 (List.replicate 32 (0 : Int))), .d (.val (.slice none 0 0))]) (old := .st [.d (eA22 (List.replicate 32 (0 : Int))), .d (.val (.slice none 0 0))]) (z := .st [.d (eA22 a0), .d (.val (.slice none 0 0))]) (c' := .st [.d (eA22 a0), .d (.val (.slice none 0 0))]) rfl rfl (by rfl) ty26 (by rfl)) rfl (.c rfl (.c rfl .nil)) (.cons rfl .nil) ?_
   refine .nil (aq_then ?_)
   refine aw_ret ?_
   refine aq_then_ret ?_
   obtain rfl := Option.some.inj h
   refine aq_freezeH [] [(4, .ptr 4 0 [])] [(4, .av (.d (eGLine (⟨a0, []⟩ : GLine))))] .nil (.keep rfl .nil) (.cons rfl (by rfl) (.st (.cons (.same _) (.cons .nil .nil))) .nil) ?_
   refine aq_weak (s' := ⟨[(4, .ptr 4 0 [])], [(4, .av (.d (eGLine (⟨a0, []⟩ : GLine)))), (0, .av (.st [.st [.slc 1 0 ((a1).length) 33]])), (1, .av (.d (.arr 33 ((a1).length) ((a1).map eGLine))))], []⟩) id hb0 (.keep rfl .nil) (.keep rfl (.keep rfl (.keep rfl .nil))) rfl (by rfl) ?_
   exact aq_fin1 (.cell rfl rfl ty26 (by rfl) .nil) rfl ⟨rfl, rfl⟩
 replace h := ite_f hc3 h
 refine aw_skip ?_
 refine aq_then ?_
 refine aw_rs ?_
 refine .mv rfl (by rfl) ?_
 refine .v (f_nilCheck (by rfl)) rfl (.c rfl .nil) .nil ?_
 refine .v (f_fieldAddr (n := 0) (by rfl) fl132_0 (by decide)) rfl (.c rfl .nil) .nil ?_
 refine .v (f_fieldAddr (n := 0) (by rfl) fl74_0 (by decide)) rfl (.c rfl .nil) .nil ?_
 refine .v (f_load (n := 0) (o := 0) (off := ((0 + 0) + 0)) (p := [0, 0]) (c := .st [.st [.slc 1 0 ((a1).length) 33]]) (z := .slc 1 0 ((a1).length) 33) (by rfl) rfl ty72 (by rfl)) rfl (.c rfl .nil) (.cons rfl .nil) ?_
 refine .mv rfl (by rfl) ?_
 obtain ⟨x4, hx5, h⟩ := bind_some h
 obtain ⟨hx6, hx5⟩ := rd_some hx5
 refine .v (f_indexSW (by rfl) sl72 hx6 (rd_map _ hx5)) rfl (.c rfl (.c rfl .nil)) (.cons rfl .nil) ?_
 refine .v (f_load (n := 0) (o := 1) (off := ((0 + (y1.1).toNat) * 33)) (p := [0 + (y1.1).toNat]) (c := .d (.arr 33 ((a1).length) ((a1).map eGLine))) (z := .d (eGLine x4)) (by rfl) (at_map _ (by simpa using hx5) rfl) ty26 (by rfl)) rfl (.c rfl .nil) (.cons rfl .nil) ?_
 refine .s (f_store (n := 0) (o := 4) (off := 0) (p := []) (c := .st [.d (eA22 (List.replicate 32 (0 : Int))), .d (.val (.slice none 0 0))]) (old := .st [.d (eA22 (List.replicate 32 (0 : Int))), .d (.val (.slice none 0 0))]) (z := .d (eGLine x4)) (c' := .d (eGLine x4)) rfl rfl (by rfl) ty26 (by rfl)) rfl (.c rfl (.c rfl .nil)) (.cons rfl .nil) ?_
 refine .nil (aq_then ?_)
 refine aw_ret ?_
 obtain rfl := Option.some.inj h
 refine aq_weak (s' := ⟨[(4, .ptr 4 0 [])], [(4, .av (.d (eGLine x4))), (0, .av (.st [.st [.slc 1 0 ((a1).length) 33]])), (1, .av (.d (.arr 33 ((a1).length) ((a1).map eGLine))))], []⟩) id hb0 (.keep rfl .nil) (.keep rfl (.keep rfl (.keep rfl .nil))) rfl (by rfl) ?_
 exact aq_fin1 (.cell rfl rfl ty26 (by rfl) .nil) rfl ⟨rfl, rfl⟩

/- 34: beadroll/queue.Put -/
def F34_queue_Put (n : Nat) (a0 : GLine) (a1 : GTx) : Option (GLine × (List GTx) × Int) :=
  ((F18_queue_Check n a0).bind fun (y1 : Int) => (if (y1 != (0 : Int)) = true then some ((⟨(List.replicate 32 (0 : Int)), []⟩ : GLine), [], (8 : Int)) else ((F77_queue_own n a1 a0.From).bind fun (y4 : Bool) => (if (!y4) = true then some ((⟨(List.replicate 32 (0 : Int)), []⟩ : GLine), [], (2 : Int)) else ((F74_queue_nonces n a0).bind fun (y7 : (List GTx)) => ((F75_api_Tx_ahead_844 n y7 a1.Nonce).bind fun (y9 : Int) => ((F47_queue_Twin n a0).bind fun (y11 : (List Int) × List GTx) => (((if (decide (y9 < ((a0.Txs).length : Int))) = true then ((rd a0.Txs y9).bind fun (x14 : GTx) => some (x14.Nonce == a1.Nonce)) else some false)).bind fun (o17 : Bool) => (if o17 = true then ((rd a0.Txs y9).bind fun (x19 : GTx) => (if (decide (a1.Fee ≤ x19.Fee)) = true then some ((⟨(List.replicate 32 (0 : Int)), []⟩ : GLine), [], (190 : Int)) else ((rd y11.2 y9).bind fun (x23 : GTx) => ((rd a0.Txs y9).bind fun (x26 : GTx) => some ((⟨y11.1, (y11.2.set (0 + (y9).toNat) a1)⟩ : GLine), ([x26] : List GTx), (0 : Int)))))) else (if (((a0.Txs).length : Int) == (256 : Int)) = true then some ((⟨(List.replicate 32 (0 : Int)), []⟩ : GLine), [], (9 : Int)) else ((F83_Insert n y9 y11.2 ([a1] : List GTx)).bind fun (y30 : List GTx) => some ((⟨y11.1, y30⟩ : GLine), [], (0 : Int)))))))))))))
theorem F34_queue_Put_ok {n : Nat} {a0 : GLine} {a1 : GTx} {r : GLine × (List GTx) × Int} (h : F34_queue_Put n a0 a1 = some r) :
    ACall Tryd.prog GS 34 [.d (eGLine a0), .d (eGTx a1)] [] (fun r' hp' => r' = .res [.d (eGLine r.1), .d (eL24 r.2.1), .d (.val (.int .i64 r.2.2))] ∧ hp' = []) := by
 refine acall_of_body mixed Tryd.func34 rfl (by rfl) ?_
 intro C hro hgl hb0
 unfold F34_queue_Put at h
 refine aw_rs ?_
 refine .n (f_box 2 (by rfl) (by rfl)) rfl (.c rfl .nil) rfl ?_
 refine .n (f_box 3 (by rfl) (by rfl)) rfl (.c rfl .nil) rfl ?_
 refine .n (f_alloc 4 (by rfl) zrv26) rfl .nil rfl ?_
 refine .as rfl (by rfl) ?_
 refine .as rfl (by rfl) ?_
 refine .nil (aq_then ?_)
 refine aw_seq ?_
 refine aw_block ?_
 refine aw_rs ?_
 refine .v (f_load (n := 0) (o := 2) (off := 0) (p := []) (c := .d (eGLine a0)) (z := .d (eGLine a0)) (by rfl) rfl ty26 (by rfl)) rfl (.c rfl .nil) (.cons rfl .nil) ?_
 obtain ⟨y1, hy2, h⟩ := bind_some h
 refine .v (f_callP hgl (by rfl) en18 rfl (by rfl) (by rfl) (by rfl) (F18_queue_Check_ok hy2)) rfl (.c rfl .nil) .nil ?_
 refine .v (f_binI (by rfl) rfl (by rfl)) rfl (.c rfl (.c rfl .nil)) .nil ?_
 refine .as rfl (by rfl) ?_
 refine .nil (aq_then ?_)
 refine aw_cond rfl (fun hc3 => ?_) (fun hc3 => ?_)
 · replace h := ite_t hc3 h
   refine aw_rs ?_
   refine .v (f_load (n := 0) (o := 4) (off := 0) (p := []) (c := .st [.d (eA22 (List.replicate 32 (0 : Int))), .d (.val (.slice none 0 0))]) (z := .st [.d (eA22 (List.replicate 32 (0 : Int))), .d (.val (.slice none 0 0))]) (by rfl) rfl ty26 (by rfl)) rfl (.c rfl .nil) (.cons rfl .nil) ?_
   refine .s (f_store (n := 0) (o := 4) (off := 0) (p := []) (c := .st [.d (eA22 (List.replicate 32 (0 : Int))), .d (.val (.slice none 0 0))]) (old := .st [.d (eA22 (List.replicate 32 (0 : Int))), .d (.val (.slice none 0 0))]) (z := .st [.d (eA22 (List.replicate 32 (0 : Int))), .d (.val (.slice none 0 0))]) (c' := .st [.d (eA22 (List.replicate 32 (0 : Int))), .d (.val (.slice none 0 0))]) rfl rfl (by rfl) ty26 (by rfl)) rfl (.c rfl (.c rfl .nil)) (.cons rfl .nil) ?_
   refine .as rfl (by rfl) ?_
   refine .as rfl (by rfl) ?_
   refine .nil (aq_then ?_)
   refine aw_ret ?_
   refine aq_block_ret ?_
   refine aq_then_ret ?_
   obtain rfl := Option.some.inj h
   refine aq_freezeH [] [(4, .ptr 4 0 []), (5, .d (eL24 ([]))), (6, .d (.val (.int .i64 (8 : Int))))] [(4, .av (.d (eGLine (⟨(List.replicate 32 (0 : Int)), []⟩ : GLine))))] .nil (.keep rfl (.cons rfl .nil (.keep rfl .nil))) (.cons rfl (by rfl) (.st (.cons (.same _) (.cons .nil .nil))) .nil) ?_
   exact aq_finp hb0 rfl (.cell rfl rfl ty26 (by rfl) (.tmp rfl (by rfl) (.tmp rfl (by rfl) .nil))) (by rfl) rfl ⟨rfl, rfl⟩
 replace h := ite_f hc3 h
 refine aw_rs ?_
 refine .v (f_load (n := 0) (o := 3) (off := 0) (p := []) (c := .d (eGTx a1)) (z := .d (eGTx a1)) (by rfl) rfl ty36 (by rfl)) rfl (.c rfl .nil) (.cons rfl .nil) ?_
 refine .v (f_fieldAddr (n := 0) (by rfl) fl26_0 (by decide)) rfl (.c rfl .nil) .nil ?_
 refine .v (f_load (n := 0) (o := 2) (off := (0 + 0)) (p := [0]) (c := .d (eGLine a0)) (z := .d (eA22 a0.From)) (by rfl) rfl ty23 (by rfl)) rfl (.c rfl .nil) (.cons rfl .nil) ?_
 obtain ⟨y4, hy5, h⟩ := bind_some h
 refine .v (f_callP hgl (by rfl) en77 rfl (by rfl) (by rfl) (by rfl) (F77_queue_own_ok hy5)) rfl (.c rfl (.c rfl .nil)) .nil ?_
 refine .v (f_not (by rfl)) rfl (.c rfl .nil) .nil ?_
 refine .as rfl (by rfl) ?_
 refine .nil (aq_then ?_)
 refine aw_cond rfl (fun hc6 => ?_) (fun hc6 => ?_)
 · replace h := ite_t hc6 h
   refine aw_rs ?_
   refine .v (f_load (n := 0) (o := 4) (off := 0) (p := []) (c := .st [.d (eA22 (List.replicate 32 (0 : Int))), .d (.val (.slice none 0 0))]) (z := .st [.d (eA22 (List.replicate 32 (0 : Int))), .d (.val (.slice none 0 0))]) (by rfl) rfl ty26 (by rfl)) rfl (.c rfl .nil) (.cons rfl .nil) ?_
   refine .s (f_store (n := 0) (o := 4) (off := 0) (p := []) (c := .st [.d (eA22 (List.replicate 32 (0 : Int))), .d (.val (.slice none 0 0))]) (old := .st [.d (eA22 (List.replicate 32 (0 : Int))), .d (.val (.slice none 0 0))]) (z := .st [.d (eA22 (List.replicate 32 (0 : Int))), .d (.val (.slice none 0 0))]) (c' := .st [.d (eA22 (List.replicate 32 (0 : Int))), .d (.val (.slice none 0 0))]) rfl rfl (by rfl) ty26 (by rfl)) rfl (.c rfl (.c rfl .nil)) (.cons rfl .nil) ?_
   refine .as rfl (by rfl) ?_
   refine .as rfl (by rfl) ?_
   refine .nil (aq_then ?_)
   refine aw_ret ?_
   refine aq_block_ret ?_
   refine aq_then_ret ?_
   obtain rfl := Option.some.inj h
   refine aq_freezeH [] [(4, .ptr 4 0 []), (5, .d (eL24 ([]))), (6, .d (.val (.int .i64 (2 : Int))))] [(4, .av (.d (eGLine (⟨(List.replicate 32 (0 : Int)), []⟩ : GLine))))] .nil (.keep rfl (.cons rfl .nil (.keep rfl .nil))) (.cons rfl (by rfl) (.st (.cons (.same _) (.cons .nil .nil))) .nil) ?_
   exact aq_finp hb0 rfl (.cell rfl rfl ty26 (by rfl) (.tmp rfl (by rfl) (.tmp rfl (by rfl) .nil))) (by rfl) rfl ⟨rfl, rfl⟩
 replace h := ite_f hc6 h
 refine aw_skip ?_
 refine aq_block ?_
 refine aq_then ?_
 refine aw_rds ?_
 refine .v (f_load (n := 0) (o := 2) (off := 0) (p := []) (c := .d (eGLine a0)) (z := .d (eGLine a0)) (by rfl) rfl ty26 (by rfl)) rfl (.c rfl .nil) (.cons rfl .nil) ?_
 obtain ⟨y7, hy8, h⟩ := bind_some h
 refine .w (f_callG (xs := [.d (eGLine a0)]) (r := .st [.d (eL24 y7), .fn (.func 111) [] []]) (hw := [(1119, .av (.st [.d (eL24 y7), .fn (.func 111) [] []]))]) (fun i => bif Nat.beq i 2 then 1119 else i) [] hgl (by rfl) (cal_f en74) rfl (by rfl) (by rfl) (by rfl) (by rfl) (.cons (.same _) .nil) rfl rfl rfl rfl (F74_queue_nonces_ok hy8)) rfl (.c rfl .nil) .nil (.cons rfl .nil) ?_
 refine .v (f_fieldAddr (n := 64) (by rfl) fl36_2 (by decide)) rfl (.c rfl .nil) .nil ?_
 refine .v (f_load (n := 0) (o := 3) (off := (0 + 64)) (p := [2]) (c := .d (eGTx a1)) (z := .d (.val (.int .u64 a1.Nonce))) (by rfl) rfl ty27 (by rfl)) rfl (.c rfl .nil) (.cons rfl .nil) ?_
 obtain ⟨y9, hy10, h⟩ := bind_some h
 refine .w (f_callG0 (xs := [.st [.d (eL24 y7), .fn (.func 111) [] []], .d (.val (.int .u64 a1.Nonce))]) (r := .d (.val (.int .i64 y9))) (fun i => i) [] hgl (by rfl) (cal_f en75) rfl (by rfl) (by rfl) (by rfl) (by rfl) (.cons (.same _) (.cons (.same _) .nil)) rfl rfl (F75_api_Tx_ahead_844_ok hy10)) rfl (.c rfl (.c rfl .nil)) .nil .nil ?_
 refine .v (f_assign (by rfl)) rfl (.c rfl .nil) .nil ?_
 refine .nil (by kernel_rfl) ?_
 refine aw_rs ?_
 refine .v (f_load (n := 0) (o := 2) (off := 0) (p := []) (c := .d (eGLine a0)) (z := .d (eGLine a0)) (by rfl) rfl ty26 (by rfl)) rfl (.c rfl .nil) (.cons rfl .nil) ?_
 obtain ⟨y11, hy12, h⟩ := bind_some h
 refine .w (f_callG (xs := [.d (eGLine a0)]) (r := .st [.d (eA22 y11.1), .slc 1121 0 ((y11.2).length) 99]) (hw := [(1120, .av (.st [.d (eA22 y11.1), .slc 1121 0 ((y11.2).length) 99])), (1121, .av (.d (.arr 99 ((y11.2).length) ((y11.2).map eGTx))))]) (fun i => bif Nat.beq i 1083 then 1121 else (bif Nat.beq i 2 then 1120 else i)) [] hgl (by rfl) (cal_f en47) rfl (by rfl) (by rfl) (by rfl) (by rfl) (.cons (.same _) .nil) rfl rfl rfl rfl (F47_queue_Twin_ok hy12)) rfl (.c rfl .nil) .nil (.cons rfl (.cons rfl .nil)) ?_
 refine .s (f_store (n := 0) (o := 4) (off := 0) (p := []) (c := .st [.d (eA22 (List.replicate 32 (0 : Int))), .d (.val (.slice none 0 0))]) (old := .st [.d (eA22 (List.replicate 32 (0 : Int))), .d (.val (.slice none 0 0))]) (z := .st [.d (eA22 y11.1), .slc 1121 0 ((y11.2).length) 99]) (c' := .st [.d (eA22 y11.1), .slc 1121 0 ((y11.2).length) 99]) rfl rfl (by rfl) ty26 (by rfl)) rfl (.c rfl (.c rfl .nil)) (.cons rfl .nil) ?_
 refine .nil (aq_then ?_)
 refine aw_seq ?_
 refine aw_seq ?_
 obtain ⟨o17, ho32, h⟩ := bind_some h
 refine aw_join (.normal) ⟨[(2, .ptr 2 0 []), (3, .ptr 3 0 []), (4, .ptr 4 0 []), (7, .d (.val (.int .i64 y9))), (42, .d (.val (.bool o17)))], [(2, .av (.d (eGLine a0))), (3, .av (.d (eGTx a1))), (4, .av (.st [.d (eA22 y11.1), .slc 1121 0 ((y11.2).length) 99])), (1121, .av (.d (.arr 99 ((y11.2).length) ((y11.2).map eGTx))))], []⟩ ?_ ?_
 · replace h := ho32
   refine aw_rd ?_
   refine .v (f_move (by rfl)) rfl (.c rfl .nil) .nil ?_
   refine .v (f_fieldAddr (n := 32) (by rfl) fl26_1 (by decide)) rfl (.c rfl .nil) .nil ?_
   refine .v (f_load (n := 0) (o := 2) (off := (0 + 32)) (p := [1]) (c := .d (eGLine a0)) (z := .d (eL24 a0.Txs)) (by rfl) rfl ty24 (by rfl)) rfl (.c rfl .nil) (.cons rfl .nil) ?_
   refine .v (f_lenD (n := (a0.Txs).length) (by rfl) sl24 rfl (by simp)) rfl (.c rfl .nil) .nil ?_
   refine .v (f_binI (by rfl) rfl (by rfl)) rfl (.c rfl (.c rfl .nil)) .nil ?_
   refine .v (f_move (by rfl)) rfl (.c rfl .nil) .nil ?_
   rcases Bool.eq_false_or_eq_true (decide (y9 < ((a0.Txs).length : Int))) with hc13 | hc13
   · replace h := ite_t hc13 h
     refine .gv (f_fieldAddr (n := 32) (by rfl) fl26_1 (by decide)) rfl rfl rfl hc13 (.c rfl .nil) .nil ?_
     refine .gv (f_load (n := 0) (o := 2) (off := (0 + 32)) (p := [1]) (c := .d (eGLine a0)) (z := .d (eL24 a0.Txs)) (by rfl) rfl ty24 (by rfl)) rfl rfl rfl hc13 (.c rfl .nil) (.cons rfl .nil) ?_
     refine .gv (f_move (by rfl)) rfl rfl rfl hc13 (.c rfl .nil) .nil ?_
     obtain ⟨x14, hx15, h⟩ := bind_some h
     obtain ⟨hx16, hx15⟩ := rd_some hx15
     refine .gv (f_indexS (by rfl) sl24 hx16 (rd_map _ hx15)) rfl rfl rfl hc13 (.c rfl (.c rfl .nil)) .nil ?_
     refine .gv (f_fieldAddrR (by rfl) fl36_2 (by decide) rfl) rfl rfl rfl hc13 (.c rfl .nil) .nil ?_
     refine .gv (f_loadR (z := (.val (.int .u64 x14.Nonce))) (by rfl) ty27) rfl rfl rfl hc13 (.c rfl .nil) .nil ?_
     refine .gv (f_fieldAddr (n := 64) (by rfl) fl36_2 (by decide)) rfl rfl rfl hc13 (.c rfl .nil) .nil ?_
     refine .gv (f_load (n := 0) (o := 3) (off := (0 + 64)) (p := [2]) (c := .d (eGTx a1)) (z := .d (.val (.int .u64 a1.Nonce))) (by rfl) rfl ty27 (by rfl)) rfl rfl rfl hc13 (.c rfl .nil) (.cons rfl .nil) ?_
     refine .gv (f_binI (by rfl) rfl (by rfl)) rfl rfl rfl hc13 (.c rfl (.c rfl .nil)) .nil ?_
     refine .v (f_pick_true (by rfl) hc13) rfl (.c rfl (.c rfl .nil)) .nil ?_
     refine .nil (by kernel_rfl) ?_
     obtain rfl := Option.some.inj h
     refine aq_weak (s' := ⟨[(2, .ptr 2 0 []), (3, .ptr 3 0 []), (4, .ptr 4 0 []), (7, .d (.val (.int .i64 y9))), (42, .d (.val (.bool (x14.Nonce == a1.Nonce))))], [(2, .av (.d (eGLine a0))), (3, .av (.d (eGTx a1))), (4, .av (.st [.d (eA22 y11.1), .slc 1121 0 ((y11.2).length) 99])), (1121, .av (.d (.arr 99 ((y11.2).length) ((y11.2).map eGTx))))], []⟩) id hb0 (.keep rfl (.keep rfl (.keep rfl (.keep rfl (.keep rfl .nil))))) (.keep rfl (.keep rfl (.keep rfl (.keep rfl .nil)))) rfl (by rfl) ?_
     exact jq
   replace h := ite_f hc13 h
   refine .off rfl rfl rfl hc13 rfl (by rfl) ?_
   refine .off rfl rfl rfl hc13 rfl (by rfl) ?_
   refine .off rfl rfl rfl hc13 rfl (by rfl) ?_
   refine .off rfl rfl rfl hc13 rfl (by rfl) ?_
   refine .off rfl rfl rfl hc13 rfl (by rfl) ?_
   refine .off rfl rfl rfl hc13 rfl (by rfl) ?_
   refine .off rfl rfl rfl hc13 rfl (by rfl) ?_
   refine .off rfl rfl rfl hc13 rfl (by rfl) ?_
   refine .off rfl rfl rfl hc13 rfl (by rfl) ?_
   refine .v (f_pick_false (by rfl) hc13) rfl (.c rfl (.c rfl .nil)) .nil ?_
   refine .nil (by kernel_rfl) ?_
   obtain rfl := Option.some.inj h
   refine aq_weak (s' := ⟨[(2, .ptr 2 0 []), (3, .ptr 3 0 []), (4, .ptr 4 0 []), (7, .d (.val (.int .i64 y9))), (42, .d (.val (.bool false)))], [(2, .av (.d (eGLine a0))), (3, .av (.d (eGTx a1))), (4, .av (.st [.d (eA22 y11.1), .slc 1121 0 ((y11.2).length) 99])), (1121, .av (.d (.arr 99 ((y11.2).length) ((y11.2).map eGTx))))], []⟩) id hb0 (.keep rfl (.keep rfl (.keep rfl (.keep rfl (.keep rfl .nil))))) (.keep rfl (.keep rfl (.keep rfl (.keep rfl .nil)))) rfl (by rfl) ?_
   exact jq
 refine aq_then ?_
 refine aw_cond rfl (fun hc18 => ?_) (fun hc18 => ?_)
 · replace h := ite_t hc18 h
   refine aw_seq ?_
   refine aw_rds ?_
   refine .v (f_fieldAddr (n := 66) (by rfl) fl36_4 (by decide)) rfl (.c rfl .nil) .nil ?_
   refine .v (f_load (n := 0) (o := 3) (off := (0 + 66)) (p := [4]) (c := .d (eGTx a1)) (z := .d (.val (.int .u64 a1.Fee))) (by rfl) rfl ty27 (by rfl)) rfl (.c rfl .nil) (.cons rfl .nil) ?_
   refine .v (f_fieldAddr (n := 32) (by rfl) fl26_1 (by decide)) rfl (.c rfl .nil) .nil ?_
   refine .v (f_load (n := 0) (o := 2) (off := (0 + 32)) (p := [1]) (c := .d (eGLine a0)) (z := .d (eL24 a0.Txs)) (by rfl) rfl ty24 (by rfl)) rfl (.c rfl .nil) (.cons rfl .nil) ?_
   refine .v (f_move (by rfl)) rfl (.c rfl .nil) .nil ?_
   obtain ⟨x19, hx20, h⟩ := bind_some h
   obtain ⟨hx21, hx20⟩ := rd_some hx20
   refine .v (f_indexS (by rfl) sl24 hx21 (rd_map _ hx20)) rfl (.c rfl (.c rfl .nil)) .nil ?_
   refine .v (f_fieldAddrR (by rfl) fl36_4 (by decide) rfl) rfl (.c rfl .nil) .nil ?_
   refine .v (f_loadR (z := (.val (.int .u64 x19.Fee))) (by rfl) ty27) rfl (.c rfl .nil) .nil ?_
   refine .v (f_binI (by rfl) rfl (by rfl)) rfl (.c rfl (.c rfl .nil)) .nil ?_
   refine .nil (by kernel_rfl) ?_
   refine aw_cond rfl (fun hc22 => ?_) (fun hc22 => ?_)
   · replace h := ite_t hc22 h
     refine aw_rs ?_
     refine .v (f_build (xs := []) (z' := .st [.d (eA22 (List.replicate 32 (0 : Int))), .d (.val (.slice none 0 0))]) (by rfl) zrv26 ag26 rfl (by rfl) trivial (by rfl) (by rfl)) rfl .nil .nil ?_
     refine .s (f_store (n := 0) (o := 4) (off := 0) (p := []) (c := .st [.d (eA22 y11.1), .slc 1121 0 ((y11.2).length) 99]) (old := .st [.d (eA22 y11.1), .slc 1121 0 ((y11.2).length) 99]) (z := .st [.d (eA22 (List.replicate 32 (0 : Int))), .d (.val (.slice none 0 0))]) (c' := .st [.d (eA22 (List.replicate 32 (0 : Int))), .d (.val (.slice none 0 0))]) rfl rfl (by rfl) ty26 (by rfl)) rfl (.c rfl (.c rfl .nil)) (.cons rfl .nil) ?_
     refine .as rfl (by rfl) ?_
     refine .as rfl (by rfl) ?_
     refine .nil (aq_then ?_)
     refine aw_ret ?_
     refine aq_then_ret ?_
     refine aq_then_ret ?_
     obtain rfl := Option.some.inj h
     refine aq_freezeH [] [(4, .ptr 4 0 []), (5, .d (eL24 ([]))), (6, .d (.val (.int .i64 (190 : Int))))] [(4, .av (.d (eGLine (⟨(List.replicate 32 (0 : Int)), []⟩ : GLine))))] .nil (.keep rfl (.cons rfl .nil (.keep rfl .nil))) (.cons rfl (by rfl) (.st (.cons (.same _) (.cons .nil .nil))) .nil) ?_
     exact aq_finp hb0 rfl (.cell rfl rfl ty26 (by rfl) (.tmp rfl (by rfl) (.tmp rfl (by rfl) .nil))) (by rfl) rfl ⟨rfl, rfl⟩
   replace h := ite_f hc22 h
   refine aw_skip ?_
   refine aq_then ?_
   refine aw_rs ?_
   refine .v (f_fieldAddr (n := 32) (by rfl) fl26_1 (by decide)) rfl (.c rfl .nil) .nil ?_
   refine .v (f_load (n := 0) (o := 4) (off := (0 + 32)) (p := [1]) (c := .st [.d (eA22 y11.1), .slc 1121 0 ((y11.2).length) 99]) (z := .slc 1121 0 ((y11.2).length) 99) (by rfl) rfl ty24 (by rfl)) rfl (.c rfl .nil) (.cons rfl .nil) ?_
   refine .mv rfl (by rfl) ?_
   refine .v (f_load (n := 0) (o := 3) (off := 0) (p := []) (c := .d (eGTx a1)) (z := .d (eGTx a1)) (by rfl) rfl ty36 (by rfl)) rfl (.c rfl .nil) (.cons rfl .nil) ?_
   obtain ⟨x23, hx24, h⟩ := bind_some h
   obtain ⟨hx25, hx24⟩ := rd_some hx24
   refine .v (f_indexSW (by rfl) sl24 hx25 (rd_map _ hx24)) rfl (.c rfl (.c rfl .nil)) (.cons rfl .nil) ?_
   refine .s (f_store (n := 0) (o := 1121) (off := ((0 + (y9).toNat) * 99)) (p := [0 + (y9).toNat]) (c := .d (.arr 99 ((y11.2).length) ((y11.2).map eGTx))) (old := .d (eGTx x23)) (z := .d (eGTx a1)) (c' := .d (.arr 99 ((y11.2).length) (((y11.2.set (0 + (y9).toNat) a1)).map eGTx))) (at_map _ (by simpa using hx24) rfl) (put_map _ (by simpa using hx24)) (by rfl) ty36 (by rfl)) rfl (.c rfl (.c rfl .nil)) (.cons rfl .nil) ?_
   refine .nil (aq_then ?_)
   refine aw_rds ?_
   refine .v (f_load (n := 0) (o := 4) (off := 0) (p := []) (c := .st [.d (eA22 y11.1), .slc 1121 0 ((y11.2).length) 99]) (z := .st [.d (eA22 y11.1), .slc 1121 0 ((y11.2).length) 99]) (by rfl) rfl ty26 (by rfl)) rfl (.c rfl .nil) (.cons rfl .nil) ?_
   refine .v (f_fieldAddr (n := 32) (by rfl) fl26_1 (by decide)) rfl (.c rfl .nil) .nil ?_
   refine .v (f_load (n := 0) (o := 2) (off := (0 + 32)) (p := [1]) (c := .d (eGLine a0)) (z := .d (eL24 a0.Txs)) (by rfl) rfl ty24 (by rfl)) rfl (.c rfl .nil) (.cons rfl .nil) ?_
   refine .v (f_move (by rfl)) rfl (.c rfl .nil) .nil ?_
   obtain ⟨x26, hx27, h⟩ := bind_some h
   obtain ⟨hx28, hx27⟩ := rd_some hx27
   refine .v (f_indexS (by rfl) sl24 hx28 (rd_map _ hx27)) rfl (.c rfl (.c rfl .nil)) .nil ?_
   refine .v (f_loadR (z := (eGTx x26)) (by rfl) ty36) rfl (.c rfl .nil) .nil ?_
   refine .n (f_buildS (xs := [(0, .d (eGTx x26))]) (z := (.st [(eA22 (List.replicate 32 (0 : Int))), (eA22 (List.replicate 32 (0 : Int))), (.val (.int .u64 (0 : Int))), (.val (.int .u64 (0 : Int))), (.val (.int .u64 (0 : Int))), (eA22 (List.replicate 32 (0 : Int)))])) (zs := (([x26] : List GTx)).map eGTx) 1122 (by rfl) el24 zel24 (by rfl) (by decide) (by decide) rfl (by rfl) ⟨_, _, _, rfl, pl24_0, rfl, rfl, trivial⟩ (by rfl)) rfl (.c rfl .nil) rfl ?_
   refine .s (f_store (n := 0) (o := 4) (off := 0) (p := []) (c := .st [.d (eA22 y11.1), .slc 1121 0 ((y11.2).length) 99]) (old := .st [.d (eA22 y11.1), .slc 1121 0 ((y11.2).length) 99]) (z := .st [.d (eA22 y11.1), .slc 1121 0 ((y11.2).length) 99]) (c' := .st [.d (eA22 y11.1), .slc 1121 0 ((y11.2).length) 99]) rfl rfl (by rfl) ty26 (by rfl)) rfl (.c rfl (.c rfl .nil)) (.cons rfl .nil) ?_
   refine .v (f_assign (by rfl)) rfl (.c rfl .nil) .nil ?_
   refine .v (f_assign (by rfl)) rfl (.c rfl .nil) .nil ?_
   refine .nil (by kernel_rfl) ?_
   refine aw_ret ?_
   refine aq_then_ret ?_
   obtain rfl := Option.some.inj h
   refine aq_freezeH [(1122, (.arr 99 ((([x26] : List GTx)).length) ((([x26] : List GTx)).map eGTx))), (1121, (.arr 99 ((y11.2).length) (((y11.2.set (0 + (y9).toNat) a1)).map eGTx)))] [(4, .ptr 4 0 []), (5, .d (eL24 ([x26] : List GTx))), (6, .d (.val (.int .i64 (0 : Int))))] [(4, .av (.d (eGLine (⟨y11.1, (y11.2.set (0 + (y9).toNat) a1)⟩ : GLine))))] (.cons rfl (.cons rfl .nil)) (.keep rfl (.cons rfl (.whole (.head _)) (.keep rfl .nil))) (.cons rfl (by rfl) (.st (.cons (.same _) (.cons (.whole (.tail _ (.head _))) .nil))) .nil) ?_
   exact aq_finp hb0 rfl (.cell rfl rfl ty26 (by rfl) (.tmp rfl (by rfl) (.tmp rfl (by rfl) .nil))) (by rfl) rfl ⟨rfl, rfl⟩
 replace h := ite_f hc18 h
 refine aw_skip ?_
 refine aq_then ?_
 refine aw_seq ?_
 refine aw_rs ?_
 refine .v (f_fieldAddr (n := 32) (by rfl) fl26_1 (by decide)) rfl (.c rfl .nil) .nil ?_
 refine .v (f_load (n := 0) (o := 2) (off := (0 + 32)) (p := [1]) (c := .d (eGLine a0)) (z := .d (eL24 a0.Txs)) (by rfl) rfl ty24 (by rfl)) rfl (.c rfl .nil) (.cons rfl .nil) ?_
 refine .v (f_lenD (n := (a0.Txs).length) (by rfl) sl24 rfl (by simp)) rfl (.c rfl .nil) .nil ?_
 refine .v (f_binI (by rfl) rfl (by rfl)) rfl (.c rfl (.c rfl .nil)) .nil ?_
 refine .nil (aq_then ?_)
 refine aw_cond rfl (fun hc29 => ?_) (fun hc29 => ?_)
 · replace h := ite_t hc29 h
   refine aw_rs ?_
   refine .v (f_build (xs := []) (z' := .st [.d (eA22 (List.replicate 32 (0 : Int))), .d (.val (.slice none 0 0))]) (by rfl) zrv26 ag26 rfl (by rfl) trivial (by rfl) (by rfl)) rfl .nil .nil ?_
   refine .s (f_store (n := 0) (o := 4) (off := 0) (p := []) (c := .st [.d (eA22 y11.1), .slc 1121 0 ((y11.2).length) 99]) (old := .st [.d (eA22 y11.1), .slc 1121 0 ((y11.2).length) 99]) (z := .st [.d (eA22 (List.replicate 32 (0 : Int))), .d (.val (.slice none 0 0))]) (c' := .st [.d (eA22 (List.replicate 32 (0 : Int))), .d (.val (.slice none 0 0))]) rfl rfl (by rfl) ty26 (by rfl)) rfl (.c rfl (.c rfl .nil)) (.cons rfl .nil) ?_
   refine .as rfl (by rfl) ?_
   refine .as rfl (by rfl) ?_
   refine .nil (aq_then ?_)
   refine aw_ret ?_
   refine aq_then_ret ?_
   obtain rfl := Option.some.inj h
   refine aq_freezeH [] [(4, .ptr 4 0 []), (5, .d (eL24 ([]))), (6, .d (.val (.int .i64 (9 : Int))))] [(4, .av (.d (eGLine (⟨(List.replicate 32 (0 : Int)), []⟩ : GLine))))] .nil (.keep rfl (.cons rfl .nil (.keep rfl .nil))) (.cons rfl (by rfl) (.st (.cons (.same _) (.cons .nil .nil))) .nil) ?_
   exact aq_finp hb0 rfl (.cell rfl rfl ty26 (by rfl) (.tmp rfl (by rfl) (.tmp rfl (by rfl) .nil))) (by rfl) rfl ⟨rfl, rfl⟩
 replace h := ite_f hc29 h
 refine aw_skip ?_
 refine aq_then ?_
 refine aw_rs ?_
 refine .v (f_fieldAddr (n := 32) (by rfl) fl26_1 (by decide)) rfl (.c rfl .nil) .nil ?_
 refine .v (f_load (n := 0) (o := 4) (off := (0 + 32)) (p := [1]) (c := .st [.d (eA22 y11.1), .slc 1121 0 ((y11.2).length) 99]) (z := .slc 1121 0 ((y11.2).length) 99) (by rfl) rfl ty24 (by rfl)) rfl (.c rfl .nil) (.cons rfl .nil) ?_
 refine .mv rfl (by rfl) ?_
 refine .v (f_load (n := 0) (o := 3) (off := 0) (p := []) (c := .d (eGTx a1)) (z := .d (eGTx a1)) (by rfl) rfl ty36 (by rfl)) rfl (.c rfl .nil) (.cons rfl .nil) ?_
 refine .n (f_buildS (xs := [(0, .d (eGTx a1))]) (z := (.st [(eA22 (List.replicate 32 (0 : Int))), (eA22 (List.replicate 32 (0 : Int))), (.val (.int .u64 (0 : Int))), (.val (.int .u64 (0 : Int))), (.val (.int .u64 (0 : Int))), (eA22 (List.replicate 32 (0 : Int)))])) (zs := (([a1] : List GTx)).map eGTx) 1123 (by rfl) el24 zel24 (by rfl) (by decide) (by decide) rfl (by rfl) ⟨_, _, _, rfl, pl24_0, rfl, rfl, trivial⟩ (by rfl)) rfl (.c rfl .nil) rfl ?_
 obtain ⟨y30, hy31, h⟩ := bind_some h
 refine .w (f_callG (xs := [.slc 1121 0 ((y11.2).length) 99, .d (.val (.int .i64 y9)), .slc 1123 0 ((([a1] : List GTx)).length) 99]) (r := .slc 1124 0 ((y30).length) 99) (hw := [(1124, .av (.d (.arr 99 ((y30).length) ((y30).map eGTx)))), (1121, .dead), (1123, .av (.d (.arr 99 ((([a1] : List GTx)).length) ((([a1] : List GTx)).map eGTx))))]) (fun i => bif Nat.beq i 2 then 1124 else (bif Nat.beq i 1 then 1123 else (bif Nat.beq i 0 then 1121 else i))) [] hgl (by rfl) (cal_f en83) rfl (by rfl) (by rfl) (by rfl) (by rfl) (.cons (.same _) (.cons (.same _) (.cons (.same _) .nil))) rfl rfl rfl rfl (F83_Insert_ok hy31)) rfl (.c rfl (.c rfl (.c rfl .nil))) (.cons rfl (.cons rfl .nil)) (.cons rfl .nil) ?_
 refine .v (f_fieldAddr (n := 32) (by rfl) fl26_1 (by decide)) rfl (.c rfl .nil) .nil ?_
 refine .s (f_store (n := 0) (o := 4) (off := (0 + 32)) (p := [1]) (c := .st [.d (eA22 y11.1), .slc 1121 0 ((y11.2).length) 99]) (old := .slc 1121 0 ((y11.2).length) 99) (z := .slc 1124 0 ((y30).length) 99) (c' := .st [.d (eA22 y11.1), .slc 1124 0 ((y30).length) 99]) rfl rfl (by rfl) ty24 (by rfl)) rfl (.c rfl (.c rfl .nil)) (.cons rfl .nil) ?_
 refine .nil (aq_then ?_)
 refine aw_rs ?_
 refine .v (f_load (n := 0) (o := 4) (off := 0) (p := []) (c := .st [.d (eA22 y11.1), .slc 1124 0 ((y30).length) 99]) (z := .st [.d (eA22 y11.1), .slc 1124 0 ((y30).length) 99]) (by rfl) rfl ty26 (by rfl)) rfl (.c rfl .nil) (.cons rfl .nil) ?_
 refine .s (f_store (n := 0) (o := 4) (off := 0) (p := []) (c := .st [.d (eA22 y11.1), .slc 1124 0 ((y30).length) 99]) (old := .st [.d (eA22 y11.1), .slc 1124 0 ((y30).length) 99]) (z := .st [.d (eA22 y11.1), .slc 1124 0 ((y30).length) 99]) (c' := .st [.d (eA22 y11.1), .slc 1124 0 ((y30).length) 99]) rfl rfl (by rfl) ty26 (by rfl)) rfl (.c rfl (.c rfl .nil)) (.cons rfl .nil) ?_
 refine .as rfl (by rfl) ?_
 refine .as rfl (by rfl) ?_
 refine .nil (aq_then ?_)
 refine aw_ret ?_
 obtain rfl := Option.some.inj h
 refine aq_freezeH [(1124, (.arr 99 ((y30).length) ((y30).map eGTx)))] [(4, .ptr 4 0 []), (5, .d (eL24 ([]))), (6, .d (.val (.int .i64 (0 : Int))))] [(4, .av (.d (eGLine (⟨y11.1, y30⟩ : GLine))))] (.cons rfl .nil) (.keep rfl (.cons rfl .nil (.keep rfl .nil))) (.cons rfl (by rfl) (.st (.cons (.same _) (.cons (.whole (.head _)) .nil))) .nil) ?_
 exact aq_finp hb0 rfl (.cell rfl rfl ty26 (by rfl) (.tmp rfl (by rfl) (.tmp rfl (by rfl) .nil))) (by rfl) rfl ⟨rfl, rfl⟩

/- 120: (*beadroll/shard.part).worst$1 -/
def F120_shard_part_worst_1_e00 (n : Nat) (a0 : Int) (a1 : (List GLine)) : Option (Int) :=
  ((rd a1 a0).bind fun (x1 : GLine) => ((rd a1 a0).bind fun (x4 : GLine) => ((rd x1.Txs (IntKind.i64.wrap (((x4.Txs).length : Int) - (1 : Int)))).bind fun (x7 : GTx) => some x7.Fee)))
theorem F120_shard_part_worst_1_e00_ok {n : Nat} {a0 : Int} {a1 : (List GLine)} {r : Int} (h : F120_shard_part_worst_1_e00 n a0 a1 = some r) :
    ACall Tryd.prog GS 120 [.d (.val (.int .i64 a0)), .ptr 0 0 []] [(0, .av (.ptr 1 0 [])), (1, .av (.st [.st [.slc 2 0 ((a1).length) 33]])), (2, .av (.d (.arr 33 ((a1).length) ((a1).map eGLine))))] (fun r' hp' => r' = .d (.val (.int .u64 r)) ∧ hp' = [(0, .av (.ptr 1 0 [])), (1, .av (.st [.st [.slc 2 0 ((a1).length) 33]])), (2, .av (.d (.arr 33 ((a1).length) ((a1).map eGLine))))]) := by
 refine acall_of_body mixed Tryd.func120 rfl (by rfl) ?_
 intro C hro hgl hb0
 unfold F120_shard_part_worst_1_e00 at h
 refine aw_rs ?_
 refine .as rfl (by rfl) ?_
 refine .nil (aq_then ?_)
 refine aw_rds ?_
 refine .v (f_load (n := 0) (o := 0) (off := 0) (p := []) (c := .ptr 1 0 []) (z := .ptr 1 0 []) (by rfl) rfl ty130 (by rfl)) rfl (.c rfl .nil) (.cons rfl .nil) ?_
 refine .v (f_nilCheck (by rfl)) rfl (.c rfl .nil) .nil ?_
 refine .v (f_fieldAddr (n := 0) (by rfl) fl132_0 (by decide)) rfl (.c rfl .nil) .nil ?_
 refine .v (f_fieldAddr (n := 0) (by rfl) fl74_0 (by decide)) rfl (.c rfl .nil) .nil ?_
 refine .v (f_load (n := 0) (o := 1) (off := ((0 + 0) + 0)) (p := [0, 0]) (c := .st [.st [.slc 2 0 ((a1).length) 33]]) (z := .slc 2 0 ((a1).length) 33) (by rfl) rfl ty72 (by rfl)) rfl (.c rfl .nil) (.cons rfl .nil) ?_
 refine .v (f_move (by rfl)) rfl (.c rfl .nil) .nil ?_
 obtain ⟨x1, hx2, h⟩ := bind_some h
 obtain ⟨hx3, hx2⟩ := rd_some hx2
 refine .v (f_indexSW (by rfl) sl72 hx3 (rd_map _ hx2)) rfl (.c rfl (.c rfl .nil)) (.cons rfl .nil) ?_
 refine .v (f_fieldAddr (n := 32) (by rfl) fl26_1 (by decide)) rfl (.c rfl .nil) .nil ?_
 refine .v (f_load (n := 0) (o := 2) (off := (((0 + (a0).toNat) * 33) + 32)) (p := [0 + (a0).toNat, 1]) (c := .d (.arr 33 ((a1).length) ((a1).map eGLine))) (z := .d (eL24 x1.Txs)) (by rfl) (at_map2 eGLine (by simpa using hx2) rfl rfl) ty24 (by rfl)) rfl (.c rfl .nil) (.cons rfl .nil) ?_
 refine .v (f_load (n := 0) (o := 0) (off := 0) (p := []) (c := .ptr 1 0 []) (z := .ptr 1 0 []) (by rfl) rfl ty130 (by rfl)) rfl (.c rfl .nil) (.cons rfl .nil) ?_
 refine .v (f_nilCheck (by rfl)) rfl (.c rfl .nil) .nil ?_
 refine .v (f_fieldAddr (n := 0) (by rfl) fl132_0 (by decide)) rfl (.c rfl .nil) .nil ?_
 refine .v (f_fieldAddr (n := 0) (by rfl) fl74_0 (by decide)) rfl (.c rfl .nil) .nil ?_
 refine .v (f_load (n := 0) (o := 1) (off := ((0 + 0) + 0)) (p := [0, 0]) (c := .st [.st [.slc 2 0 ((a1).length) 33]]) (z := .slc 2 0 ((a1).length) 33) (by rfl) rfl ty72 (by rfl)) rfl (.c rfl .nil) (.cons rfl .nil) ?_
 refine .v (f_move (by rfl)) rfl (.c rfl .nil) .nil ?_
 obtain ⟨x4, hx5, h⟩ := bind_some h
 obtain ⟨hx6, hx5⟩ := rd_some hx5
 refine .v (f_indexSW (by rfl) sl72 hx6 (rd_map _ hx5)) rfl (.c rfl (.c rfl .nil)) (.cons rfl .nil) ?_
 refine .v (f_fieldAddr (n := 32) (by rfl) fl26_1 (by decide)) rfl (.c rfl .nil) .nil ?_
 refine .v (f_load (n := 0) (o := 2) (off := (((0 + (a0).toNat) * 33) + 32)) (p := [0 + (a0).toNat, 1]) (c := .d (.arr 33 ((a1).length) ((a1).map eGLine))) (z := .d (eL24 x4.Txs)) (by rfl) (at_map2 eGLine (by simpa using hx5) rfl rfl) ty24 (by rfl)) rfl (.c rfl .nil) (.cons rfl .nil) ?_
 refine .v (f_lenD (n := (x4.Txs).length) (by rfl) sl24 rfl (by simp)) rfl (.c rfl .nil) .nil ?_
 refine .v (f_binI (by rfl) rfl (by rfl)) rfl (.c rfl (.c rfl .nil)) .nil ?_
 obtain ⟨x7, hx8, h⟩ := bind_some h
 obtain ⟨hx9, hx8⟩ := rd_some hx8
 refine .v (f_indexS (by rfl) sl24 hx9 (rd_map _ hx8)) rfl (.c rfl (.c rfl .nil)) .nil ?_
 refine .v (f_fieldAddrR (by rfl) fl36_4 (by decide) rfl) rfl (.c rfl .nil) .nil ?_
 refine .v (f_loadR (z := (.val (.int .u64 x7.Fee))) (by rfl) ty27) rfl (.c rfl .nil) .nil ?_
 refine .v (f_assign (by rfl)) rfl (.c rfl .nil) .nil ?_
 refine .nil (by kernel_rfl) ?_
 refine aw_ret ?_
 obtain rfl := Option.some.inj h
 refine aq_weak (s' := ⟨[(3, .d (.val (.int .u64 x7.Fee)))], [(0, .av (.ptr 1 0 [])), (1, .av (.st [.st [.slc 2 0 ((a1).length) 33]])), (2, .av (.d (.arr 33 ((a1).length) ((a1).map eGLine))))], []⟩) id hb0 (.keep rfl .nil) (.keep rfl (.keep rfl (.keep rfl .nil))) rfl (by rfl) ?_
 exact aq_fin1 (.tmp rfl (by rfl) .nil) rfl ⟨rfl, rfl⟩

/- 94: (*beadroll/shard.part).worst -/
def F94_shard_part_worst_647_s0 (n : Nat) (a0 : GTx) (a1 : (List GLine)) (y1 : (List Int)) (z0_0 : Int) (z0_1 : Int) : Option ((Int × Int) ⊕ (Int)) :=
  (if (decide (z0_1 < ((a1).length : Int))) = true then ((((((rd a1 z0_1).bind fun (x4 : GLine) => (if (!(decide (x4.From = y1))) = true then ((F120_shard_part_worst_1_e00 n z0_1 a1).bind fun (y8 : Int) => (if (decide (y8 < a0.Fee)) = true then (if (decide (z0_0 < (0 : Int))) = true then some true else ((F120_shard_part_worst_1_e00 n z0_1 a1).bind fun (y12 : Int) => ((F120_shard_part_worst_1_e00 n z0_0 a1).bind fun (y14 : Int) => some (decide (y12 < y14))))) else some false)) else some false))).bind fun (o16 : Bool) => (if o16 = true then some z0_1 else some z0_0))).bind fun (o19 : Int) => some (.inl (o19, (IntKind.i64.wrap (z0_1 + (1 : Int)))))) else some (.inr z0_0))
def F94_shard_part_worst_647 (n : Nat) (a0 : GTx) (a1 : (List GLine)) : Option (Int) :=
  ((F39_tx_From n a0).bind fun (y1 : (List Int)) => ((loopF (fun (z : Int × Int) => F94_shard_part_worst_647_s0 n a0 a1 y1 z.1 z.2) n ((-1 : Int), (0 : Int))).bind fun (o21 : Int) => some o21))
theorem F94_shard_part_worst_647_ok {n : Nat} {a0 : GTx} {a1 : (List GLine)} {r : Int} (h : F94_shard_part_worst_647 n a0 a1 = some r) :
    ACall Tryd.prog GS 94 [.ptr 0 0 [], .d (eGTx a0)] [(0, .av (.st [.st [.slc 1 0 ((a1).length) 33]])), (1, .av (.d (.arr 33 ((a1).length) ((a1).map eGLine))))] (fun r' hp' => r' = .d (.val (.int .i64 r)) ∧ hp' = [(0, .av (.st [.st [.slc 1 0 ((a1).length) 33]])), (1, .av (.d (.arr 33 ((a1).length) ((a1).map eGLine))))]) := by
 refine acall_of_body mixed Tryd.func94 rfl (by rfl) ?_
 intro C hro hgl hb0
 unfold F94_shard_part_worst_647 at h
 refine aw_rs ?_
 refine .n (f_box 2 (by rfl) (by rfl)) rfl (.c rfl .nil) rfl ?_
 refine .n (f_box 3 (by rfl) (by rfl)) rfl (.c rfl .nil) rfl ?_
 refine .as rfl (by rfl) ?_
 refine .nil (aq_then ?_)
 refine aw_rs ?_
 refine .v (f_load (n := 0) (o := 3) (off := 0) (p := []) (c := .d (eGTx a0)) (z := .d (eGTx a0)) (by rfl) rfl ty36 (by rfl)) rfl (.c rfl .nil) (.cons rfl .nil) ?_
 obtain ⟨y1, hy2, h⟩ := bind_some h
 refine .v (f_callP hgl (by rfl) en39 rfl (by rfl) (by rfl) (by rfl) (F39_tx_From_ok hy2)) rfl (.c rfl .nil) .nil ?_
 refine .n (f_alloc 6 (by rfl) zr23) rfl .nil rfl ?_
 refine .as rfl (by rfl) ?_
 refine .s (f_store (n := 0) (o := 6) (off := 0) (p := []) (c := .d (eA22 (List.replicate 32 (0 : Int)))) (old := .d (eA22 (List.replicate 32 (0 : Int)))) (z := .d (eA22 y1)) (c' := .d (eA22 y1)) rfl rfl (by rfl) ty23 (by rfl)) rfl (.c rfl (.c rfl .nil)) (.cons rfl .nil) ?_
 refine .nil (aq_then ?_)
 refine aw_rs ?_
 refine .v (f_makeFunc (xs := []) (ys := [.ptr 2 0 []]) (by rfl) rfl rfl (by rfl) (by rfl)) rfl (.c rfl .nil) .nil ?_
 refine .as rfl (by rfl) ?_
 refine .nil (aq_then ?_)
 refine aw_seq ?_
 refine aw_rs ?_
 refine .v (f_load (n := 0) (o := 2) (off := 0) (p := []) (c := .ptr 0 0 []) (z := .ptr 0 0 []) (by rfl) rfl ty130 (by rfl)) rfl (.c rfl .nil) (.cons rfl .nil) ?_
 refine .v (f_nilCheck (by rfl)) rfl (.c rfl .nil) .nil ?_
 refine .v (f_fieldAddr (n := 0) (by rfl) fl132_0 (by decide)) rfl (.c rfl .nil) .nil ?_
 refine .v (f_fieldAddr (n := 0) (by rfl) fl74_0 (by decide)) rfl (.c rfl .nil) .nil ?_
 refine .v (f_load (n := 0) (o := 0) (off := ((0 + 0) + 0)) (p := [0, 0]) (c := .st [.st [.slc 1 0 ((a1).length) 33]]) (z := .slc 1 0 ((a1).length) 33) (by rfl) rfl ty72 (by rfl)) rfl (.c rfl .nil) (.cons rfl .nil) ?_
 refine .v (f_lenO (by rfl) sl72 rfl) rfl (.c rfl .nil) .nil ?_
 refine .mv rfl (by rfl) ?_
 refine .nil (aq_then ?_)
 refine aw_block ?_
 refine aw_weak (s' := ⟨[(2, .ptr 2 0 []), (3, .ptr 3 0 []), (5, .d (.val (.int .i64 (-1 : Int)))), (6, .ptr 6 0 []), (7, .fn (.func 120) [] [.ptr 2 0 []]), (17, .d (.val (.int .i64 ((a1).length : Int)))), (18, .d (.val (.int .i64 (0 : Int))))], [(2, .av (.ptr 0 0 [])), (3, .av (.d (eGTx a0))), (6, .av (.d (eA22 y1))), (0, .av (.st [.st [.slc 1 0 ((a1).length) 33]])), (1, .av (.d (.arr 33 ((a1).length) ((a1).map eGLine))))], []⟩) id hb0 (.keep rfl (.keep rfl (.keep rfl (.keep rfl (.keep rfl (.keep rfl (.keep rfl .nil))))))) (.keep rfl (.keep rfl (.keep rfl (.keep rfl (.keep rfl .nil))))) rfl (by rfl) ?_
 obtain ⟨o21, ho22, h⟩ := bind_some h
 refine aw_loopX (σ := Int × Int) (fun z => ⟨[(2, .ptr 2 0 []), (3, .ptr 3 0 []), (5, .d (.val (.int .i64 z.1))), (6, .ptr 6 0 []), (7, .fn (.func 120) [] [.ptr 2 0 []]), (17, .d (.val (.int .i64 ((a1).length : Int)))), (18, .d (.val (.int .i64 z.2)))], [(2, .av (.ptr 0 0 [])), (3, .av (.d (eGTx a0))), (6, .av (.d (eA22 y1))), (0, .av (.st [.st [.slc 1 0 ((a1).length) 33]])), (1, .av (.d (.arr 33 ((a1).length) ((a1).map eGLine))))], []⟩) (fun _ => (.exit 0)) (fun (o21 : Int) => ⟨[(5, .d (.val (.int .i64 o21)))], [(0, .av (.st [.st [.slc 1 0 ((a1).length) 33]])), (1, .av (.d (.arr 33 ((a1).length) ((a1).map eGLine))))], []⟩) ho22 (fun _ => rfl) ?_ ?_
 · clear h ho22
   rintro ⟨z0_0, z0_1⟩ o h
   change F94_shard_part_worst_647_s0 n a0 a1 y1 z0_0 z0_1 = some o at h
   unfold F94_shard_part_worst_647_s0 at h
   show AW _ _ _ ⟨[(2, .ptr 2 0 []), (3, .ptr 3 0 []), (5, .d (.val (.int .i64 z0_0))), (6, .ptr 6 0 []), (7, .fn (.func 120) [] [.ptr 2 0 []]), (17, .d (.val (.int .i64 ((a1).length : Int)))), (18, .d (.val (.int .i64 z0_1)))], [(2, .av (.ptr 0 0 [])), (3, .av (.d (eGTx a0))), (6, .av (.d (eA22 y1))), (0, .av (.st [.st [.slc 1 0 ((a1).length) 33]])), (1, .av (.d (.arr 33 ((a1).length) ((a1).map eGLine))))], []⟩
   refine aw_rs ?_
   refine .v (f_binI (by rfl) rfl (by rfl)) rfl (.c rfl (.c rfl .nil)) .nil ?_
   refine .nil (aq_then ?_)
   refine aw_seq ?_
   refine aw_cond rfl (fun hc3 => ?_) (fun hc3 => ?_)
   · replace h := ite_t hc3 h
     refine aw_skip ?_
     refine aq_then ?_
     refine aw_seq ?_
     obtain ⟨o19, ho20, h⟩ := bind_some h
     refine aw_join (.normal) ⟨[(2, .ptr 2 0 []), (3, .ptr 3 0 []), (5, .d (.val (.int .i64 o19))), (6, .ptr 6 0 []), (7, .fn (.func 120) [] [.ptr 2 0 []]), (17, .d (.val (.int .i64 ((a1).length : Int)))), (18, .d (.val (.int .i64 z0_1)))], [(2, .av (.ptr 0 0 [])), (3, .av (.d (eGTx a0))), (6, .av (.d (eA22 y1))), (0, .av (.st [.st [.slc 1 0 ((a1).length) 33]])), (1, .av (.d (.arr 33 ((a1).length) ((a1).map eGLine))))], []⟩ ?_ ?_
     · replace h := ho20
       refine aw_block ?_
       refine aw_rs ?_
       refine .mv rfl (by rfl) ?_
       refine .as rfl (by rfl) ?_
       refine .nil (aq_then ?_)
       refine aw_seq ?_
       obtain ⟨o16, ho18, h⟩ := bind_some h
       refine aw_join (.normal) ⟨[(2, .ptr 2 0 []), (3, .ptr 3 0 []), (5, .d (.val (.int .i64 z0_0))), (6, .ptr 6 0 []), (7, .fn (.func 120) [] [.ptr 2 0 []]), (8, .d (.val (.int .i64 z0_1))), (17, .d (.val (.int .i64 ((a1).length : Int)))), (18, .d (.val (.int .i64 z0_1))), (52, .d (.val (.bool o16)))], [(2, .av (.ptr 0 0 [])), (3, .av (.d (eGTx a0))), (6, .av (.d (eA22 y1))), (0, .av (.st [.st [.slc 1 0 ((a1).length) 33]])), (1, .av (.d (.arr 33 ((a1).length) ((a1).map eGLine))))], []⟩ ?_ ?_
       · replace h := ho18
         refine aw_rd ?_
         refine .v (f_load (n := 0) (o := 2) (off := 0) (p := []) (c := .ptr 0 0 []) (z := .ptr 0 0 []) (by rfl) rfl ty130 (by rfl)) rfl (.c rfl .nil) (.cons rfl .nil) ?_
         refine .v (f_nilCheck (by rfl)) rfl (.c rfl .nil) .nil ?_
         refine .v (f_fieldAddr (n := 0) (by rfl) fl132_0 (by decide)) rfl (.c rfl .nil) .nil ?_
         refine .v (f_fieldAddr (n := 0) (by rfl) fl74_0 (by decide)) rfl (.c rfl .nil) .nil ?_
         refine .v (f_load (n := 0) (o := 0) (off := ((0 + 0) + 0)) (p := [0, 0]) (c := .st [.st [.slc 1 0 ((a1).length) 33]]) (z := .slc 1 0 ((a1).length) 33) (by rfl) rfl ty72 (by rfl)) rfl (.c rfl .nil) (.cons rfl .nil) ?_
         refine .v (f_move (by rfl)) rfl (.c rfl .nil) .nil ?_
         obtain ⟨x4, hx5, h⟩ := bind_some h
         obtain ⟨hx6, hx5⟩ := rd_some hx5
         refine .v (f_indexSW (by rfl) sl72 hx6 (rd_map _ hx5)) rfl (.c rfl (.c rfl .nil)) (.cons rfl .nil) ?_
         refine .v (f_fieldAddr (n := 0) (by rfl) fl26_0 (by decide)) rfl (.c rfl .nil) .nil ?_
         refine .v (f_load (n := 0) (o := 1) (off := (((0 + (z0_1).toNat) * 33) + 0)) (p := [0 + (z0_1).toNat, 0]) (c := .d (.arr 33 ((a1).length) ((a1).map eGLine))) (z := .d (eA22 x4.From)) (by rfl) (at_map2 eGLine (by simpa using hx5) rfl rfl) ty23 (by rfl)) rfl (.c rfl .nil) (.cons rfl .nil) ?_
         refine .v (f_load (n := 0) (o := 6) (off := 0) (p := []) (c := .d (eA22 y1)) (z := .d (eA22 y1)) (by rfl) rfl ty23 (by rfl)) rfl (.c rfl .nil) (.cons rfl .nil) ?_
         refine .v (f_neqT (by rfl) (fit23 _) (fit23 _) (by rfl) (by rfl) gd23 (eq_eA22 _ _)) rfl (.c rfl (.c rfl .nil)) .nil ?_
         refine .v (f_move (by rfl)) rfl (.c rfl .nil) .nil ?_
         rcases Bool.eq_false_or_eq_true (!(decide (x4.From = y1))) with hc7 | hc7
         · replace h := ite_t hc7 h
           refine .gv (f_move (by rfl)) rfl rfl rfl hc7 (.c rfl .nil) .nil ?_
           refine .gv (f_move (by rfl)) rfl rfl rfl hc7 (.c rfl .nil) .nil ?_
           obtain ⟨y8, hy9, h⟩ := bind_some h
           refine .gw (f_callG0 (xs := [.d (.val (.int .i64 z0_1))]) (r := .d (.val (.int .u64 y8))) (fun i => bif Nat.beq i 2 then 1 else (bif Nat.beq i 1 then 0 else (bif Nat.beq i 0 then 2 else i))) [] hgl (by rfl) (cal_v (first := []) (caps := [.ptr 2 0 []]) en120) rfl (by rfl) (by rfl) (by rfl) (by rfl) (.cons (.same _) (.cons (.same _) .nil)) rfl rfl (F120_shard_part_worst_1_e00_ok hy9)) rfl rfl rfl hc7 (.c rfl (.c rfl .nil)) (.cons rfl (.cons rfl (.cons rfl .nil))) .nil ?_
           refine .gv (f_fieldAddr (n := 66) (by rfl) fl36_4 (by decide)) rfl rfl rfl hc7 (.c rfl .nil) .nil ?_
           refine .gv (f_load (n := 0) (o := 3) (off := (0 + 66)) (p := [4]) (c := .d (eGTx a0)) (z := .d (.val (.int .u64 a0.Fee))) (by rfl) rfl ty27 (by rfl)) rfl rfl rfl hc7 (.c rfl .nil) (.cons rfl .nil) ?_
           refine .gv (f_binI (by rfl) rfl (by rfl)) rfl rfl rfl hc7 (.c rfl (.c rfl .nil)) .nil ?_
           refine .v (f_pick_true (by rfl) hc7) rfl (.c rfl (.c rfl .nil)) .nil ?_
           refine .v (f_move (by rfl)) rfl (.c rfl .nil) .nil ?_
           rcases Bool.eq_false_or_eq_true (decide (y8 < a0.Fee)) with hc10 | hc10
           · replace h := ite_t hc10 h
             refine .gv (f_move (by rfl)) rfl rfl rfl hc10 (.c rfl .nil) .nil ?_
             refine .gv (f_binI (by rfl) rfl (by rfl)) rfl rfl rfl hc10 (.c rfl (.c rfl .nil)) .nil ?_
             refine .gv (f_move (by rfl)) rfl rfl rfl hc10 (.c rfl .nil) .nil ?_
             rcases Bool.eq_false_or_eq_true (decide (z0_0 < (0 : Int))) with hc11 | hc11
             · replace h := ite_t hc11 h
               refine .off rfl rfl rfl hc11 rfl (by rfl) ?_
               refine .off rfl rfl rfl hc11 rfl (by rfl) ?_
               refine .off rfl rfl rfl hc11 rfl (by rfl) ?_
               refine .off rfl rfl rfl hc11 rfl (by rfl) ?_
               refine .off rfl rfl rfl hc11 rfl (by rfl) ?_
               refine .off rfl rfl rfl hc11 rfl (by rfl) ?_
               refine .off rfl rfl rfl hc11 rfl (by rfl) ?_
               refine .gv (f_pick_true (by rfl) hc11) rfl rfl rfl hc10 (.c rfl (.c rfl .nil)) .nil ?_
               refine .v (f_pick_true (by rfl) hc10) rfl (.c rfl (.c rfl .nil)) .nil ?_
               refine .nil (by kernel_rfl) ?_
               obtain rfl := Option.some.inj h
               refine aq_weak (s' := ⟨[(2, .ptr 2 0 []), (3, .ptr 3 0 []), (5, .d (.val (.int .i64 z0_0))), (6, .ptr 6 0 []), (7, .fn (.func 120) [] [.ptr 2 0 []]), (8, .d (.val (.int .i64 z0_1))), (17, .d (.val (.int .i64 ((a1).length : Int)))), (18, .d (.val (.int .i64 z0_1))), (52, .d (.val (.bool true)))], [(2, .av (.ptr 0 0 [])), (3, .av (.d (eGTx a0))), (6, .av (.d (eA22 y1))), (0, .av (.st [.st [.slc 1 0 ((a1).length) 33]])), (1, .av (.d (.arr 33 ((a1).length) ((a1).map eGLine))))], []⟩) id hb0 (.keep rfl (.keep rfl (.keep rfl (.keep rfl (.keep rfl (.keep rfl (.keep rfl (.keep rfl (.keep rfl .nil))))))))) (.keep rfl (.keep rfl (.keep rfl (.keep rfl (.keep rfl .nil))))) rfl (by rfl) ?_
               exact jq
             replace h := ite_f hc11 h
             refine .gv (f_move (by rfl)) rfl rfl rfl hc11 (.c rfl .nil) .nil ?_
             refine .gv (f_move (by rfl)) rfl rfl rfl hc11 (.c rfl .nil) .nil ?_
             obtain ⟨y12, hy13, h⟩ := bind_some h
             refine .gw (f_callG0 (xs := [.d (.val (.int .i64 z0_1))]) (r := .d (.val (.int .u64 y12))) (fun i => bif Nat.beq i 2 then 1 else (bif Nat.beq i 1 then 0 else (bif Nat.beq i 0 then 2 else i))) [] hgl (by rfl) (cal_v (first := []) (caps := [.ptr 2 0 []]) en120) rfl (by rfl) (by rfl) (by rfl) (by rfl) (.cons (.same _) (.cons (.same _) .nil)) rfl rfl (F120_shard_part_worst_1_e00_ok hy13)) rfl rfl rfl hc11 (.c rfl (.c rfl .nil)) (.cons rfl (.cons rfl (.cons rfl .nil))) .nil ?_
             refine .gv (f_move (by rfl)) rfl rfl rfl hc11 (.c rfl .nil) .nil ?_
             refine .gv (f_move (by rfl)) rfl rfl rfl hc11 (.c rfl .nil) .nil ?_
             obtain ⟨y14, hy15, h⟩ := bind_some h
             refine .gw (f_callG0 (xs := [.d (.val (.int .i64 z0_0))]) (r := .d (.val (.int .u64 y14))) (fun i => bif Nat.beq i 2 then 1 else (bif Nat.beq i 1 then 0 else (bif Nat.beq i 0 then 2 else i))) [] hgl (by rfl) (cal_v (first := []) (caps := [.ptr 2 0 []]) en120) rfl (by rfl) (by rfl) (by rfl) (by rfl) (.cons (.same _) (.cons (.same _) .nil)) rfl rfl (F120_shard_part_worst_1_e00_ok hy15)) rfl rfl rfl hc11 (.c rfl (.c rfl .nil)) (.cons rfl (.cons rfl (.cons rfl .nil))) .nil ?_
             refine .gv (f_binI (by rfl) rfl (by rfl)) rfl rfl rfl hc11 (.c rfl (.c rfl .nil)) .nil ?_
             refine .gv (f_pick_false (by rfl) hc11) rfl rfl rfl hc10 (.c rfl (.c rfl .nil)) .nil ?_
             refine .v (f_pick_true (by rfl) hc10) rfl (.c rfl (.c rfl .nil)) .nil ?_
             refine .nil (by kernel_rfl) ?_
             obtain rfl := Option.some.inj h
             refine aq_weak (s' := ⟨[(2, .ptr 2 0 []), (3, .ptr 3 0 []), (5, .d (.val (.int .i64 z0_0))), (6, .ptr 6 0 []), (7, .fn (.func 120) [] [.ptr 2 0 []]), (8, .d (.val (.int .i64 z0_1))), (17, .d (.val (.int .i64 ((a1).length : Int)))), (18, .d (.val (.int .i64 z0_1))), (52, .d (.val (.bool (decide (y12 < y14)))))], [(2, .av (.ptr 0 0 [])), (3, .av (.d (eGTx a0))), (6, .av (.d (eA22 y1))), (0, .av (.st [.st [.slc 1 0 ((a1).length) 33]])), (1, .av (.d (.arr 33 ((a1).length) ((a1).map eGLine))))], []⟩) id hb0 (.keep rfl (.keep rfl (.keep rfl (.keep rfl (.keep rfl (.keep rfl (.keep rfl (.keep rfl (.keep rfl .nil))))))))) (.keep rfl (.keep rfl (.keep rfl (.keep rfl (.keep rfl .nil))))) rfl (by rfl) ?_
             exact jq
           replace h := ite_f hc10 h
           refine .off rfl rfl rfl hc10 rfl (by rfl) ?_
           refine .off rfl rfl rfl hc10 rfl (by rfl) ?_
           refine .off rfl rfl rfl hc10 rfl (by rfl) ?_
           refine .offu rfl rfl rfl rfl (by rfl) ?_
           refine .offu rfl rfl rfl rfl (by rfl) ?_
           refine .offu rfl rfl rfl rfl (by rfl) ?_
           refine .offu rfl rfl rfl rfl (by rfl) ?_
           refine .offu rfl rfl rfl rfl (by rfl) ?_
           refine .offu rfl rfl rfl rfl (by rfl) ?_
           refine .offu rfl rfl rfl rfl (by rfl) ?_
           refine .off rfl rfl rfl hc10 rfl (by rfl) ?_
           refine .v (f_pick_false (by rfl) hc10) rfl (.c rfl (.c rfl .nil)) .nil ?_
           refine .nil (by kernel_rfl) ?_
           obtain rfl := Option.some.inj h
           refine aq_weak (s' := ⟨[(2, .ptr 2 0 []), (3, .ptr 3 0 []), (5, .d (.val (.int .i64 z0_0))), (6, .ptr 6 0 []), (7, .fn (.func 120) [] [.ptr 2 0 []]), (8, .d (.val (.int .i64 z0_1))), (17, .d (.val (.int .i64 ((a1).length : Int)))), (18, .d (.val (.int .i64 z0_1))), (52, .d (.val (.bool false)))], [(2, .av (.ptr 0 0 [])), (3, .av (.d (eGTx a0))), (6, .av (.d (eA22 y1))), (0, .av (.st [.st [.slc 1 0 ((a1).length) 33]])), (1, .av (.d (.arr 33 ((a1).length) ((a1).map eGLine))))], []⟩) id hb0 (.keep rfl (.keep rfl (.keep rfl (.keep rfl (.keep rfl (.keep rfl (.keep rfl (.keep rfl (.keep rfl .nil))))))))) (.keep rfl (.keep rfl (.keep rfl (.keep rfl (.keep rfl .nil))))) rfl (by rfl) ?_
           exact jq
         replace h := ite_f hc7 h
         refine .off rfl rfl rfl hc7 rfl (by rfl) ?_
         refine .off rfl rfl rfl hc7 rfl (by rfl) ?_
         refine .off rfl rfl rfl hc7 rfl (by rfl) ?_
         refine .off rfl rfl rfl hc7 rfl (by rfl) ?_
         refine .off rfl rfl rfl hc7 rfl (by rfl) ?_
         refine .off rfl rfl rfl hc7 rfl (by rfl) ?_
         refine .v (f_pick_false (by rfl) hc7) rfl (.c rfl (.c rfl .nil)) .nil ?_
         refine .v (f_move (by rfl)) rfl (.c rfl .nil) .nil ?_
         refine .off rfl rfl rfl rfl rfl (by rfl) ?_
         refine .off rfl rfl rfl rfl rfl (by rfl) ?_
         refine .off rfl rfl rfl rfl rfl (by rfl) ?_
         refine .offu rfl rfl rfl rfl (by rfl) ?_
         refine .offu rfl rfl rfl rfl (by rfl) ?_
         refine .offu rfl rfl rfl rfl (by rfl) ?_
         refine .offu rfl rfl rfl rfl (by rfl) ?_
         refine .offu rfl rfl rfl rfl (by rfl) ?_
         refine .offu rfl rfl rfl rfl (by rfl) ?_
         refine .offu rfl rfl rfl rfl (by rfl) ?_
         refine .off rfl rfl rfl rfl rfl (by rfl) ?_
         refine .v (f_pick_false (by rfl) rfl) rfl (.c rfl (.c rfl .nil)) .nil ?_
         refine .nil (by kernel_rfl) ?_
         obtain rfl := Option.some.inj h
         refine aq_weak (s' := ⟨[(2, .ptr 2 0 []), (3, .ptr 3 0 []), (5, .d (.val (.int .i64 z0_0))), (6, .ptr 6 0 []), (7, .fn (.func 120) [] [.ptr 2 0 []]), (8, .d (.val (.int .i64 z0_1))), (17, .d (.val (.int .i64 ((a1).length : Int)))), (18, .d (.val (.int .i64 z0_1))), (52, .d (.val (.bool false)))], [(2, .av (.ptr 0 0 [])), (3, .av (.d (eGTx a0))), (6, .av (.d (eA22 y1))), (0, .av (.st [.st [.slc 1 0 ((a1).length) 33]])), (1, .av (.d (.arr 33 ((a1).length) ((a1).map eGLine))))], []⟩) id hb0 (.keep rfl (.keep rfl (.keep rfl (.keep rfl (.keep rfl (.keep rfl (.keep rfl (.keep rfl (.keep rfl .nil))))))))) (.keep rfl (.keep rfl (.keep rfl (.keep rfl (.keep rfl .nil))))) rfl (by rfl) ?_
         exact jq
       refine aq_then ?_
       refine aw_cond rfl (fun hc17 => ?_) (fun hc17 => ?_)
       · replace h := ite_t hc17 h
         refine aw_r ?_
         refine .mv rfl (by rfl) ?_
         refine .as rfl (by rfl) ?_
         refine .nil ?_
         refine aq_block ?_
         obtain rfl := Option.some.inj h
         refine aq_weak (s' := ⟨[(2, .ptr 2 0 []), (3, .ptr 3 0 []), (5, .d (.val (.int .i64 z0_1))), (6, .ptr 6 0 []), (7, .fn (.func 120) [] [.ptr 2 0 []]), (17, .d (.val (.int .i64 ((a1).length : Int)))), (18, .d (.val (.int .i64 z0_1)))], [(2, .av (.ptr 0 0 [])), (3, .av (.d (eGTx a0))), (6, .av (.d (eA22 y1))), (0, .av (.st [.st [.slc 1 0 ((a1).length) 33]])), (1, .av (.d (.arr 33 ((a1).length) ((a1).map eGLine))))], []⟩) id hb0 (.keep rfl (.keep rfl (.keep rfl (.keep rfl (.keep rfl (.keep rfl (.keep rfl .nil))))))) (.keep rfl (.keep rfl (.keep rfl (.keep rfl (.keep rfl .nil))))) rfl (by rfl) ?_
         exact jq
       replace h := ite_f hc17 h
       refine aw_skip ?_
       refine aq_block ?_
       obtain rfl := Option.some.inj h
       refine aq_weak (s' := ⟨[(2, .ptr 2 0 []), (3, .ptr 3 0 []), (5, .d (.val (.int .i64 z0_0))), (6, .ptr 6 0 []), (7, .fn (.func 120) [] [.ptr 2 0 []]), (17, .d (.val (.int .i64 ((a1).length : Int)))), (18, .d (.val (.int .i64 z0_1)))], [(2, .av (.ptr 0 0 [])), (3, .av (.d (eGTx a0))), (6, .av (.d (eA22 y1))), (0, .av (.st [.st [.slc 1 0 ((a1).length) 33]])), (1, .av (.d (.arr 33 ((a1).length) ((a1).map eGLine))))], []⟩) id hb0 (.keep rfl (.keep rfl (.keep rfl (.keep rfl (.keep rfl (.keep rfl (.keep rfl .nil))))))) (.keep rfl (.keep rfl (.keep rfl (.keep rfl (.keep rfl .nil))))) rfl (by rfl) ?_
       exact jq
     refine aq_then ?_
     refine aw_r ?_
     refine .v (f_binI (by rfl) rfl (by rfl)) rfl (.c rfl (.c rfl .nil)) .nil ?_
     refine .mv rfl (by rfl) ?_
     refine .nil ?_
     obtain rfl := Option.some.inj h
     refine aq_weak (s' := ⟨[(2, .ptr 2 0 []), (3, .ptr 3 0 []), (5, .d (.val (.int .i64 o19))), (6, .ptr 6 0 []), (7, .fn (.func 120) [] [.ptr 2 0 []]), (17, .d (.val (.int .i64 ((a1).length : Int)))), (18, .d (.val (.int .i64 (IntKind.i64.wrap (z0_1 + (1 : Int))))))], [(2, .av (.ptr 0 0 [])), (3, .av (.d (eGTx a0))), (6, .av (.d (eA22 y1))), (0, .av (.st [.st [.slc 1 0 ((a1).length) 33]])), (1, .av (.d (.arr 33 ((a1).length) ((a1).map eGLine))))], []⟩) id hb0 (.keep rfl (.keep rfl (.keep rfl (.keep rfl (.keep rfl (.keep rfl (.keep rfl .nil))))))) (.keep rfl (.keep rfl (.keep rfl (.keep rfl (.keep rfl .nil))))) rfl (by rfl) ?_
     exact jq
   replace h := ite_f hc3 h
   refine aw_exit ?_
   refine aq_then_exit ?_
   obtain rfl := Option.some.inj h
   refine aq_weak (s' := ⟨[(5, .d (.val (.int .i64 z0_0)))], [(0, .av (.st [.st [.slc 1 0 ((a1).length) 33]])), (1, .av (.d (.arr 33 ((a1).length) ((a1).map eGLine))))], []⟩) id hb0 (.keep rfl .nil) (.keep rfl (.keep rfl .nil)) rfl (by rfl) ?_
   exact jq
 refine aq_block_exit ?_
 refine aq_then ?_
 refine aw_rs ?_
 refine .mv rfl (by rfl) ?_
 refine .as rfl (by rfl) ?_
 refine .nil (aq_then ?_)
 refine aw_ret ?_
 obtain rfl := Option.some.inj h
 refine aq_weak (s' := ⟨[(4, .d (.val (.int .i64 o21)))], [(0, .av (.st [.st [.slc 1 0 ((a1).length) 33]])), (1, .av (.d (.arr 33 ((a1).length) ((a1).map eGLine))))], []⟩) id hb0 (.keep rfl .nil) (.keep rfl (.keep rfl .nil)) rfl (by rfl) ?_
 exact aq_fin1 (.tmp rfl (by rfl) .nil) rfl ⟨rfl, rfl⟩

/- 50: beadroll/shard.Submit -/
def F50_shard_Submit (n : Nat) (a0 : GShard) (a1 : Int) (a2 : Int) (a3 : GTx) : Option (GShard × (List GTx) × Int) :=
  ((F52_shard_Check n a0).bind fun (y1 : Int) => (if (y1 != (0 : Int)) = true then some ((⟨[]⟩ : GShard), [], (8 : Int)) else ((F38_tx_Check n a3).bind fun (y4 : Int) => (if (y4 != (0 : Int)) = true then some ((⟨[]⟩ : GShard), [], (110 : Int)) else (if (decide (a3.Nonce < a2)) = true then some ((⟨[]⟩ : GShard), [], (200 : Int)) else (((if (decide ((IntKind.u64.wrap (a3.Nonce - a2)) ≥ (16 : Int))) = true then some true else some (a3.Nonce == (18446744073709551615 : Int)))).bind fun (o9 : Bool) => (if o9 = true then some ((⟨[]⟩ : GShard), [], (201 : Int)) else ((F61_shard_Twin n a0).bind fun (y11 : List GLine) => ((F39_tx_From n a3).bind fun (y13 : (List Int)) => ((F93_shard_part_line_ec6 n y13 y11).bind fun (y15 : GLine) => ((F34_queue_Put n y15 a3).bind fun (y17 : GLine × (List GTx) × Int) => (((if (y17.2.2 != (0 : Int)) = true then some (y17.2.2 != (9 : Int)) else some false)).bind fun (o20 : Bool) => (if o20 = true then some ((⟨[]⟩ : GShard), [], y17.2.2) else (if (y17.2.2 == (9 : Int)) = true then some ((⟨[]⟩ : GShard), [], (9 : Int)) else (((if (((y17.2.1).length : Int) == (0 : Int)) = true then ((F53_shard_Count n a0).bind fun (y24 : Int) => some (decide (y24 ≥ a1))) else some false)).bind fun (o26 : Bool) => (if o26 = true then ((F94_shard_part_worst_647 n a3 y11).bind fun (y28 : Int) => (if (decide (y28 < (0 : Int))) = true then some ((⟨[]⟩ : GShard), [], (9 : Int)) else ((rd y11 y28).bind fun (x31 : GLine) => ((rd x31.Txs (IntKind.i64.wrap (((x31.Txs).length : Int) - (1 : Int)))).bind fun (x34 : GTx) => (if 0 ≤ (0 : Int) ∧ (0 : Int) ≤ (IntKind.i64.wrap (((x31.Txs).length : Int) - (1 : Int))) ∧ (IntKind.i64.wrap (((x31.Txs).length : Int) - (1 : Int))) ≤ ((x31.Txs).length : Int) then ((F95_shard_part_set_ddb n ({ x31 with Txs := ((x31.Txs).take ((IntKind.i64.wrap (((x31.Txs).length : Int) - (1 : Int)))).toNat) }) y11).bind fun (y38 : List GLine) => ((F95_shard_part_set_ddb n y17.1 y38).bind fun (y40 : List GLine) => some ((⟨y40⟩ : GShard), ([x34] : List GTx), (0 : Int)))) else none))))) else ((F95_shard_part_set_ddb n y17.1 y11).bind fun (y42 : List GLine) => some ((⟨y42⟩ : GShard), y17.2.1, (0 : Int)))))))))))))))))))
theorem F50_shard_Submit_ok {n : Nat} {a0 : GShard} {a1 : Int} {a2 : Int} {a3 : GTx} {r : GShard × (List GTx) × Int} (h : F50_shard_Submit n a0 a1 a2 a3 = some r) :
    ACall Tryd.prog GS 50 [.d (eGShard a0), .d (.val (.int .i64 a1)), .d (.val (.int .u64 a2)), .d (eGTx a3)] [] (fun r' hp' => r' = .res [.d (eGShard r.1), .d (eL24 r.2.1), .d (.val (.int .i64 r.2.2))] ∧ hp' = []) := by
 refine acall_of_body mixed Tryd.func50 rfl (by rfl) ?_
 intro C hro hgl hb0
 unfold F50_shard_Submit at h
 refine aw_rs ?_
 refine .n (f_box 4 (by rfl) (by rfl)) rfl (.c rfl .nil) rfl ?_
 refine .n (f_box 7 (by rfl) (by rfl)) rfl (.c rfl .nil) rfl ?_
 refine .n (f_alloc 8 (by rfl) zrv74) rfl .nil rfl ?_
 refine .as rfl (by rfl) ?_
 refine .as rfl (by rfl) ?_
 refine .nil (aq_then ?_)
 refine aw_seq ?_
 refine aw_block ?_
 refine aw_rs ?_
 refine .v (f_load (n := 0) (o := 4) (off := 0) (p := []) (c := .d (eGShard a0)) (z := .d (eGShard a0)) (by rfl) rfl ty74 (by rfl)) rfl (.c rfl .nil) (.cons rfl .nil) ?_
 obtain ⟨y1, hy2, h⟩ := bind_some h
 refine .v (f_callP hgl (by rfl) en52 rfl (by rfl) (by rfl) (by rfl) (F52_shard_Check_ok hy2)) rfl (.c rfl .nil) .nil ?_
 refine .v (f_binI (by rfl) rfl (by rfl)) rfl (.c rfl (.c rfl .nil)) .nil ?_
 refine .as rfl (by rfl) ?_
 refine .nil (aq_then ?_)
 refine aw_cond rfl (fun hc3 => ?_) (fun hc3 => ?_)
 · replace h := ite_t hc3 h
   refine aw_rs ?_
   refine .v (f_load (n := 0) (o := 8) (off := 0) (p := []) (c := .st [.d (.val (.slice none 0 0))]) (z := .st [.d (.val (.slice none 0 0))]) (by rfl) rfl ty74 (by rfl)) rfl (.c rfl .nil) (.cons rfl .nil) ?_
   refine .s (f_store (n := 0) (o := 8) (off := 0) (p := []) (c := .st [.d (.val (.slice none 0 0))]) (old := .st [.d (.val (.slice none 0 0))]) (z := .st [.d (.val (.slice none 0 0))]) (c' := .st [.d (.val (.slice none 0 0))]) rfl rfl (by rfl) ty74 (by rfl)) rfl (.c rfl (.c rfl .nil)) (.cons rfl .nil) ?_
   refine .as rfl (by rfl) ?_
   refine .as rfl (by rfl) ?_
   refine .nil (aq_then ?_)
   refine aw_ret ?_
   refine aq_block_ret ?_
   refine aq_then_ret ?_
   obtain rfl := Option.some.inj h
   refine aq_freezeH [] [(8, .ptr 8 0 []), (9, .d (eL24 ([]))), (10, .d (.val (.int .i64 (8 : Int))))] [(8, .av (.d (eGShard (⟨[]⟩ : GShard))))] .nil (.keep rfl (.cons rfl .nil (.keep rfl .nil))) (.cons rfl (by rfl) (.st (.cons .nil .nil)) .nil) ?_
   exact aq_finp hb0 rfl (.cell rfl rfl ty74 (by rfl) (.tmp rfl (by rfl) (.tmp rfl (by rfl) .nil))) (by rfl) rfl ⟨rfl, rfl⟩
 replace h := ite_f hc3 h
 refine aw_rs ?_
 refine .v (f_load (n := 0) (o := 7) (off := 0) (p := []) (c := .d (eGTx a3)) (z := .d (eGTx a3)) (by rfl) rfl ty36 (by rfl)) rfl (.c rfl .nil) (.cons rfl .nil) ?_
 obtain ⟨y4, hy5, h⟩ := bind_some h
 refine .v (f_callP hgl (by rfl) en38 rfl (by rfl) (by rfl) (by rfl) (F38_tx_Check_ok hy5)) rfl (.c rfl .nil) .nil ?_
 refine .v (f_binI (by rfl) rfl (by rfl)) rfl (.c rfl (.c rfl .nil)) .nil ?_
 refine .as rfl (by rfl) ?_
 refine .nil (aq_then ?_)
 refine aw_cond rfl (fun hc6 => ?_) (fun hc6 => ?_)
 · replace h := ite_t hc6 h
   refine aw_rs ?_
   refine .v (f_load (n := 0) (o := 8) (off := 0) (p := []) (c := .st [.d (.val (.slice none 0 0))]) (z := .st [.d (.val (.slice none 0 0))]) (by rfl) rfl ty74 (by rfl)) rfl (.c rfl .nil) (.cons rfl .nil) ?_
   refine .s (f_store (n := 0) (o := 8) (off := 0) (p := []) (c := .st [.d (.val (.slice none 0 0))]) (old := .st [.d (.val (.slice none 0 0))]) (z := .st [.d (.val (.slice none 0 0))]) (c' := .st [.d (.val (.slice none 0 0))]) rfl rfl (by rfl) ty74 (by rfl)) rfl (.c rfl (.c rfl .nil)) (.cons rfl .nil) ?_
   refine .as rfl (by rfl) ?_
   refine .as rfl (by rfl) ?_
   refine .nil (aq_then ?_)
   refine aw_ret ?_
   refine aq_block_ret ?_
   refine aq_then_ret ?_
   obtain rfl := Option.some.inj h
   refine aq_freezeH [] [(8, .ptr 8 0 []), (9, .d (eL24 ([]))), (10, .d (.val (.int .i64 (110 : Int))))] [(8, .av (.d (eGShard (⟨[]⟩ : GShard))))] .nil (.keep rfl (.cons rfl .nil (.keep rfl .nil))) (.cons rfl (by rfl) (.st (.cons .nil .nil)) .nil) ?_
   exact aq_finp hb0 rfl (.cell rfl rfl ty74 (by rfl) (.tmp rfl (by rfl) (.tmp rfl (by rfl) .nil))) (by rfl) rfl ⟨rfl, rfl⟩
 replace h := ite_f hc6 h
 refine aw_rs ?_
 refine .v (f_fieldAddr (n := 64) (by rfl) fl36_2 (by decide)) rfl (.c rfl .nil) .nil ?_
 refine .v (f_load (n := 0) (o := 7) (off := (0 + 64)) (p := [2]) (c := .d (eGTx a3)) (z := .d (.val (.int .u64 a3.Nonce))) (by rfl) rfl ty27 (by rfl)) rfl (.c rfl .nil) (.cons rfl .nil) ?_
 refine .mv rfl (by rfl) ?_
 refine .v (f_binI (by rfl) rfl (by rfl)) rfl (.c rfl (.c rfl .nil)) .nil ?_
 refine .as rfl (by rfl) ?_
 refine .nil (aq_then ?_)
 refine aw_cond rfl (fun hc7 => ?_) (fun hc7 => ?_)
 · replace h := ite_t hc7 h
   refine aw_rs ?_
   refine .v (f_load (n := 0) (o := 8) (off := 0) (p := []) (c := .st [.d (.val (.slice none 0 0))]) (z := .st [.d (.val (.slice none 0 0))]) (by rfl) rfl ty74 (by rfl)) rfl (.c rfl .nil) (.cons rfl .nil) ?_
   refine .s (f_store (n := 0) (o := 8) (off := 0) (p := []) (c := .st [.d (.val (.slice none 0 0))]) (old := .st [.d (.val (.slice none 0 0))]) (z := .st [.d (.val (.slice none 0 0))]) (c' := .st [.d (.val (.slice none 0 0))]) rfl rfl (by rfl) ty74 (by rfl)) rfl (.c rfl (.c rfl .nil)) (.cons rfl .nil) ?_
   refine .as rfl (by rfl) ?_
   refine .as rfl (by rfl) ?_
   refine .nil (aq_then ?_)
   refine aw_ret ?_
   refine aq_block_ret ?_
   refine aq_then_ret ?_
   obtain rfl := Option.some.inj h
   refine aq_freezeH [] [(8, .ptr 8 0 []), (9, .d (eL24 ([]))), (10, .d (.val (.int .i64 (200 : Int))))] [(8, .av (.d (eGShard (⟨[]⟩ : GShard))))] .nil (.keep rfl (.cons rfl .nil (.keep rfl .nil))) (.cons rfl (by rfl) (.st (.cons .nil .nil)) .nil) ?_
   exact aq_finp hb0 rfl (.cell rfl rfl ty74 (by rfl) (.tmp rfl (by rfl) (.tmp rfl (by rfl) .nil))) (by rfl) rfl ⟨rfl, rfl⟩
 replace h := ite_f hc7 h
 refine aw_seq ?_
 obtain ⟨o9, ho46, h⟩ := bind_some h
 refine aw_join (.normal) ⟨[(1, .d (.val (.int .i64 a1))), (4, .ptr 4 0 []), (7, .ptr 7 0 []), (8, .ptr 8 0 []), (33, .d (.val (.bool o9)))], [(4, .av (.d (eGShard a0))), (7, .av (.d (eGTx a3))), (8, .av (.st [.d (.val (.slice none 0 0))]))], []⟩ ?_ ?_
 · replace h := ho46
   refine aw_r ?_
   refine .v (f_fieldAddr (n := 64) (by rfl) fl36_2 (by decide)) rfl (.c rfl .nil) .nil ?_
   refine .v (f_load (n := 0) (o := 7) (off := (0 + 64)) (p := [2]) (c := .d (eGTx a3)) (z := .d (.val (.int .u64 a3.Nonce))) (by rfl) rfl ty27 (by rfl)) rfl (.c rfl .nil) (.cons rfl .nil) ?_
   refine .mv rfl (by rfl) ?_
   refine .v (f_binI (by rfl) rfl (by rfl)) rfl (.c rfl (.c rfl .nil)) .nil ?_
   refine .v (f_binI (by rfl) rfl (by rfl)) rfl (.c rfl (.c rfl .nil)) .nil ?_
   refine .mv rfl (by rfl) ?_
   rcases Bool.eq_false_or_eq_true (decide ((IntKind.u64.wrap (a3.Nonce - a2)) ≥ (16 : Int))) with hc8 | hc8
   · replace h := ite_t hc8 h
     refine .off rfl rfl rfl hc8 rfl (by rfl) ?_
     refine .off rfl rfl rfl hc8 rfl (by rfl) ?_
     refine .off rfl rfl rfl hc8 rfl (by rfl) ?_
     refine .v (f_pick_true (by rfl) hc8) rfl (.c rfl (.c rfl .nil)) .nil ?_
     refine .as rfl (by rfl) ?_
     refine .nil ?_
     obtain rfl := Option.some.inj h
     refine aq_weak (s' := ⟨[(1, .d (.val (.int .i64 a1))), (4, .ptr 4 0 []), (7, .ptr 7 0 []), (8, .ptr 8 0 []), (33, .d (.val (.bool true)))], [(4, .av (.d (eGShard a0))), (7, .av (.d (eGTx a3))), (8, .av (.st [.d (.val (.slice none 0 0))]))], []⟩) id hb0 (.keep rfl (.keep rfl (.keep rfl (.keep rfl (.keep rfl .nil))))) (.keep rfl (.keep rfl (.keep rfl .nil))) rfl (by rfl) ?_
     exact jq
   replace h := ite_f hc8 h
   refine .gv (f_fieldAddr (n := 64) (by rfl) fl36_2 (by decide)) rfl rfl rfl hc8 (.c rfl .nil) .nil ?_
   refine .gv (f_load (n := 0) (o := 7) (off := (0 + 64)) (p := [2]) (c := .d (eGTx a3)) (z := .d (.val (.int .u64 a3.Nonce))) (by rfl) rfl ty27 (by rfl)) rfl rfl rfl hc8 (.c rfl .nil) (.cons rfl .nil) ?_
   refine .gv (f_binI (by rfl) rfl (by rfl)) rfl rfl rfl hc8 (.c rfl (.c rfl .nil)) .nil ?_
   refine .v (f_pick_false (by rfl) hc8) rfl (.c rfl (.c rfl .nil)) .nil ?_
   refine .as rfl (by rfl) ?_
   refine .nil ?_
   obtain rfl := Option.some.inj h
   refine aq_weak (s' := ⟨[(1, .d (.val (.int .i64 a1))), (4, .ptr 4 0 []), (7, .ptr 7 0 []), (8, .ptr 8 0 []), (33, .d (.val (.bool (a3.Nonce == (18446744073709551615 : Int)))))], [(4, .av (.d (eGShard a0))), (7, .av (.d (eGTx a3))), (8, .av (.st [.d (.val (.slice none 0 0))]))], []⟩) id hb0 (.keep rfl (.keep rfl (.keep rfl (.keep rfl (.keep rfl .nil))))) (.keep rfl (.keep rfl (.keep rfl .nil))) rfl (by rfl) ?_
   exact jq
 refine aq_then ?_
 refine aw_cond rfl (fun hc10 => ?_) (fun hc10 => ?_)
 · replace h := ite_t hc10 h
   refine aw_rs ?_
   refine .v (f_load (n := 0) (o := 8) (off := 0) (p := []) (c := .st [.d (.val (.slice none 0 0))]) (z := .st [.d (.val (.slice none 0 0))]) (by rfl) rfl ty74 (by rfl)) rfl (.c rfl .nil) (.cons rfl .nil) ?_
   refine .s (f_store (n := 0) (o := 8) (off := 0) (p := []) (c := .st [.d (.val (.slice none 0 0))]) (old := .st [.d (.val (.slice none 0 0))]) (z := .st [.d (.val (.slice none 0 0))]) (c' := .st [.d (.val (.slice none 0 0))]) rfl rfl (by rfl) ty74 (by rfl)) rfl (.c rfl (.c rfl .nil)) (.cons rfl .nil) ?_
   refine .as rfl (by rfl) ?_
   refine .as rfl (by rfl) ?_
   refine .nil (aq_then ?_)
   refine aw_ret ?_
   refine aq_block_ret ?_
   refine aq_then_ret ?_
   obtain rfl := Option.some.inj h
   refine aq_freezeH [] [(8, .ptr 8 0 []), (9, .d (eL24 ([]))), (10, .d (.val (.int .i64 (201 : Int))))] [(8, .av (.d (eGShard (⟨[]⟩ : GShard))))] .nil (.keep rfl (.cons rfl .nil (.keep rfl .nil))) (.cons rfl (by rfl) (.st (.cons .nil .nil)) .nil) ?_
   exact aq_finp hb0 rfl (.cell rfl rfl ty74 (by rfl) (.tmp rfl (by rfl) (.tmp rfl (by rfl) .nil))) (by rfl) rfl ⟨rfl, rfl⟩
 replace h := ite_f hc10 h
 refine aw_skip ?_
 refine aq_block ?_
 refine aq_then ?_
 refine aw_rs ?_
 refine .v (f_load (n := 0) (o := 4) (off := 0) (p := []) (c := .d (eGShard a0)) (z := .d (eGShard a0)) (by rfl) rfl ty74 (by rfl)) rfl (.c rfl .nil) (.cons rfl .nil) ?_
 obtain ⟨y11, hy12, h⟩ := bind_some h
 refine .w (f_callG (xs := [.d (eGShard a0)]) (r := .st [.slc 1117 0 ((y11).length) 33]) (hw := [(1116, .av (.st [.slc 1117 0 ((y11).length) 33])), (1117, .av (.d (.arr 33 ((y11).length) ((y11).map eGLine))))]) (fun i => bif Nat.beq i 1082 then 1117 else (bif Nat.beq i 2 then 1116 else i)) [] hgl (by rfl) (cal_f en61) rfl (by rfl) (by rfl) (by rfl) (by rfl) (.cons (.same _) .nil) rfl rfl rfl rfl (F61_shard_Twin_ok hy12)) rfl (.c rfl .nil) .nil (.cons rfl (.cons rfl .nil)) ?_
 refine .v (f_build (xs := [(0, .st [.slc 1117 0 ((y11).length) 33])]) (z' := .st [.st [.slc 1117 0 ((y11).length) 33]]) (by rfl) zrv132 ag132 rfl (by rfl) ⟨_, _, _, rfl, pl132_0, rfl, rfl, trivial⟩ (by rfl) (by rfl)) rfl (.c rfl .nil) .nil ?_
 refine .n (f_box 48 (by rfl) (by rfl)) rfl (.c rfl .nil) rfl ?_
 refine .as rfl (by rfl) ?_
 refine .nil (aq_then ?_)
 refine aw_rds ?_
 refine .v (f_move (by rfl)) rfl (.c rfl .nil) .nil ?_
 refine .v (f_load (n := 0) (o := 7) (off := 0) (p := []) (c := .d (eGTx a3)) (z := .d (eGTx a3)) (by rfl) rfl ty36 (by rfl)) rfl (.c rfl .nil) (.cons rfl .nil) ?_
 obtain ⟨y13, hy14, h⟩ := bind_some h
 refine .v (f_callP hgl (by rfl) en39 rfl (by rfl) (by rfl) (by rfl) (F39_tx_From_ok hy14)) rfl (.c rfl .nil) .nil ?_
 obtain ⟨y15, hy16, h⟩ := bind_some h
 refine .w (f_callG (xs := [.ptr 48 0 [], .d (eA22 y13)]) (r := .d (eGLine y15)) (hw := [(1118, .av (.d (eGLine y15))), (48, .av (.st [.st [.slc 1117 0 ((y11).length) 33]])), (1117, .av (.d (.arr 33 ((y11).length) ((y11).map eGLine))))]) (fun i => bif Nat.beq i 4 then 1118 else (bif Nat.beq i 1 then 1117 else (bif Nat.beq i 0 then 48 else i))) [] hgl (by rfl) (cal_f en93) rfl (by rfl) (by rfl) (by rfl) (by rfl) (.cons (.same _) (.cons (.same _) .nil)) rfl rfl rfl rfl (F93_shard_part_line_ec6_ok hy16)) rfl (.c rfl (.c rfl .nil)) (.cons rfl (.cons rfl .nil)) (.cons rfl .nil) ?_
 refine .v (f_load (n := 0) (o := 7) (off := 0) (p := []) (c := .d (eGTx a3)) (z := .d (eGTx a3)) (by rfl) rfl ty36 (by rfl)) rfl (.c rfl .nil) (.cons rfl .nil) ?_
 obtain ⟨y17, hy18, h⟩ := bind_some h
 refine .v (f_callP hgl (by rfl) en34 rfl (by rfl) (by rfl) (by rfl) (F34_queue_Put_ok hy18)) rfl (.c rfl (.c rfl .nil)) .nil ?_
 refine .v (f_move (by rfl)) rfl (.c rfl .nil) .nil ?_
 refine .v (f_extract (by rfl) rfl) rfl (.c rfl .nil) .nil ?_
 refine .v (f_extract (by rfl) rfl) rfl (.c rfl .nil) .nil ?_
 refine .v (f_extract (by rfl) rfl) rfl (.c rfl .nil) .nil ?_
 refine .n (f_alloc 12 (by rfl) zrv26) rfl .nil rfl ?_
 refine .s (f_store (n := 0) (o := 12) (off := 0) (p := []) (c := .st [.d (eA22 (List.replicate 32 (0 : Int))), .d (.val (.slice none 0 0))]) (old := .st [.d (eA22 (List.replicate 32 (0 : Int))), .d (.val (.slice none 0 0))]) (z := .d (eGLine y17.1)) (c' := .d (eGLine y17.1)) rfl rfl (by rfl) ty26 (by rfl)) rfl (.c rfl (.c rfl .nil)) (.cons rfl .nil) ?_
 refine .v (f_assign (by rfl)) rfl (.c rfl .nil) .nil ?_
 refine .v (f_assign (by rfl)) rfl (.c rfl .nil) .nil ?_
 refine .nil (by kernel_rfl) ?_
 refine aw_seq ?_
 refine aw_seq ?_
 obtain ⟨o20, ho45, h⟩ := bind_some h
 refine aw_join (.normal) ⟨[(1, .d (.val (.int .i64 a1))), (4, .ptr 4 0 []), (7, .ptr 7 0 []), (8, .ptr 8 0 []), (10, .d (.val (.int .i64 y17.2.2))), (11, .ptr 48 0 []), (12, .ptr 12 0 []), (13, .d (eL24 y17.2.1)), (64, .d (.val (.bool o20)))], [(4, .av (.d (eGShard a0))), (7, .av (.d (eGTx a3))), (8, .av (.st [.d (.val (.slice none 0 0))])), (48, .av (.st [.st [.slc 1117 0 ((y11).length) 33]])), (12, .av (.d (eGLine y17.1))), (1117, .av (.d (.arr 33 ((y11).length) ((y11).map eGLine))))], []⟩ ?_ ?_
 · replace h := ho45
   refine aw_r ?_
   refine .mv rfl (by rfl) ?_
   refine .v (f_binI (by rfl) rfl (by rfl)) rfl (.c rfl (.c rfl .nil)) .nil ?_
   refine .mv rfl (by rfl) ?_
   rcases Bool.eq_false_or_eq_true (y17.2.2 != (0 : Int)) with hc19 | hc19
   · replace h := ite_t hc19 h
     refine .gv (f_move (by rfl)) rfl rfl rfl hc19 (.c rfl .nil) .nil ?_
     refine .gv (f_binI (by rfl) rfl (by rfl)) rfl rfl rfl hc19 (.c rfl (.c rfl .nil)) .nil ?_
     refine .v (f_pick_true (by rfl) hc19) rfl (.c rfl (.c rfl .nil)) .nil ?_
     refine .nil ?_
     obtain rfl := Option.some.inj h
     refine aq_weak (s' := ⟨[(1, .d (.val (.int .i64 a1))), (4, .ptr 4 0 []), (7, .ptr 7 0 []), (8, .ptr 8 0 []), (10, .d (.val (.int .i64 y17.2.2))), (11, .ptr 48 0 []), (12, .ptr 12 0 []), (13, .d (eL24 y17.2.1)), (64, .d (.val (.bool (y17.2.2 != (9 : Int)))))], [(4, .av (.d (eGShard a0))), (7, .av (.d (eGTx a3))), (8, .av (.st [.d (.val (.slice none 0 0))])), (48, .av (.st [.st [.slc 1117 0 ((y11).length) 33]])), (12, .av (.d (eGLine y17.1))), (1117, .av (.d (.arr 33 ((y11).length) ((y11).map eGLine))))], []⟩) id hb0 (.keep rfl (.keep rfl (.keep rfl (.keep rfl (.keep rfl (.keep rfl (.keep rfl (.keep rfl (.keep rfl .nil))))))))) (.keep rfl (.keep rfl (.keep rfl (.keep rfl (.keep rfl (.keep rfl .nil)))))) rfl (by rfl) ?_
     exact jq
   replace h := ite_f hc19 h
   refine .off rfl rfl rfl hc19 rfl (by rfl) ?_
   refine .off rfl rfl rfl hc19 rfl (by rfl) ?_
   refine .v (f_pick_false (by rfl) hc19) rfl (.c rfl (.c rfl .nil)) .nil ?_
   refine .nil ?_
   obtain rfl := Option.some.inj h
   refine aq_weak (s' := ⟨[(1, .d (.val (.int .i64 a1))), (4, .ptr 4 0 []), (7, .ptr 7 0 []), (8, .ptr 8 0 []), (10, .d (.val (.int .i64 y17.2.2))), (11, .ptr 48 0 []), (12, .ptr 12 0 []), (13, .d (eL24 y17.2.1)), (64, .d (.val (.bool false)))], [(4, .av (.d (eGShard a0))), (7, .av (.d (eGTx a3))), (8, .av (.st [.d (.val (.slice none 0 0))])), (48, .av (.st [.st [.slc 1117 0 ((y11).length) 33]])), (12, .av (.d (eGLine y17.1))), (1117, .av (.d (.arr 33 ((y11).length) ((y11).map eGLine))))], []⟩) id hb0 (.keep rfl (.keep rfl (.keep rfl (.keep rfl (.keep rfl (.keep rfl (.keep rfl (.keep rfl (.keep rfl .nil))))))))) (.keep rfl (.keep rfl (.keep rfl (.keep rfl (.keep rfl (.keep rfl .nil)))))) rfl (by rfl) ?_
   exact jq
 refine aq_then ?_
 refine aw_cond rfl (fun hc21 => ?_) (fun hc21 => ?_)
 · replace h := ite_t hc21 h
   refine aw_rs ?_
   refine .v (f_load (n := 0) (o := 8) (off := 0) (p := []) (c := .st [.d (.val (.slice none 0 0))]) (z := .st [.d (.val (.slice none 0 0))]) (by rfl) rfl ty74 (by rfl)) rfl (.c rfl .nil) (.cons rfl .nil) ?_
   refine .mv rfl (by rfl) ?_
   refine .s (f_store (n := 0) (o := 8) (off := 0) (p := []) (c := .st [.d (.val (.slice none 0 0))]) (old := .st [.d (.val (.slice none 0 0))]) (z := .st [.d (.val (.slice none 0 0))]) (c' := .st [.d (.val (.slice none 0 0))]) rfl rfl (by rfl) ty74 (by rfl)) rfl (.c rfl (.c rfl .nil)) (.cons rfl .nil) ?_
   refine .as rfl (by rfl) ?_
   refine .as rfl (by rfl) ?_
   refine .nil (aq_then ?_)
   refine aw_ret ?_
   refine aq_then_ret ?_
   obtain rfl := Option.some.inj h
   refine aq_freezeH [] [(8, .ptr 8 0 []), (10, .d (.val (.int .i64 y17.2.2))), (9, .d (eL24 ([])))] [(8, .av (.d (eGShard (⟨[]⟩ : GShard))))] .nil (.keep rfl (.keep rfl (.cons rfl .nil .nil))) (.cons rfl (by rfl) (.st (.cons .nil .nil)) .nil) ?_
   exact aq_finp hb0 rfl (.cell rfl rfl ty74 (by rfl) (.tmp rfl (by rfl) (.tmp rfl (by rfl) .nil))) (by rfl) rfl ⟨rfl, rfl⟩
 replace h := ite_f hc21 h
 refine aw_skip ?_
 refine aq_then ?_
 refine aw_seq ?_
 refine aw_rs ?_
 refine .mv rfl (by rfl) ?_
 refine .v (f_binI (by rfl) rfl (by rfl)) rfl (.c rfl (.c rfl .nil)) .nil ?_
 refine .nil (aq_then ?_)
 refine aw_cond rfl (fun hc22 => ?_) (fun hc22 => ?_)
 · replace h := ite_t hc22 h
   refine aw_rs ?_
   refine .v (f_load (n := 0) (o := 8) (off := 0) (p := []) (c := .st [.d (.val (.slice none 0 0))]) (z := .st [.d (.val (.slice none 0 0))]) (by rfl) rfl ty74 (by rfl)) rfl (.c rfl .nil) (.cons rfl .nil) ?_
   refine .s (f_store (n := 0) (o := 8) (off := 0) (p := []) (c := .st [.d (.val (.slice none 0 0))]) (old := .st [.d (.val (.slice none 0 0))]) (z := .st [.d (.val (.slice none 0 0))]) (c' := .st [.d (.val (.slice none 0 0))]) rfl rfl (by rfl) ty74 (by rfl)) rfl (.c rfl (.c rfl .nil)) (.cons rfl .nil) ?_
   refine .as rfl (by rfl) ?_
   refine .as rfl (by rfl) ?_
   refine .nil (aq_then ?_)
   refine aw_ret ?_
   refine aq_then_ret ?_
   obtain rfl := Option.some.inj h
   refine aq_freezeH [] [(8, .ptr 8 0 []), (10, .d (.val (.int .i64 (9 : Int)))), (9, .d (eL24 ([])))] [(8, .av (.d (eGShard (⟨[]⟩ : GShard))))] .nil (.keep rfl (.keep rfl (.cons rfl .nil .nil))) (.cons rfl (by rfl) (.st (.cons .nil .nil)) .nil) ?_
   exact aq_finp hb0 rfl (.cell rfl rfl ty74 (by rfl) (.tmp rfl (by rfl) (.tmp rfl (by rfl) .nil))) (by rfl) rfl ⟨rfl, rfl⟩
 replace h := ite_f hc22 h
 refine aw_skip ?_
 refine aq_then ?_
 refine aw_seq ?_
 refine aw_seq ?_
 obtain ⟨o26, ho44, h⟩ := bind_some h
 refine aw_join (.normal) ⟨[(7, .ptr 7 0 []), (8, .ptr 8 0 []), (11, .ptr 48 0 []), (12, .ptr 12 0 []), (13, .d (eL24 y17.2.1)), (78, .d (.val (.bool o26)))], [(7, .av (.d (eGTx a3))), (8, .av (.st [.d (.val (.slice none 0 0))])), (48, .av (.st [.st [.slc 1117 0 ((y11).length) 33]])), (12, .av (.d (eGLine y17.1))), (1117, .av (.d (.arr 33 ((y11).length) ((y11).map eGLine))))], []⟩ ?_ ?_
 · replace h := ho44
   refine aw_r ?_
   refine .mv rfl (by rfl) ?_
   refine .v (f_lenD (n := (y17.2.1).length) (by rfl) sl24 rfl (by simp)) rfl (.c rfl .nil) .nil ?_
   refine .v (f_binI (by rfl) rfl (by rfl)) rfl (.c rfl (.c rfl .nil)) .nil ?_
   refine .mv rfl (by rfl) ?_
   rcases Bool.eq_false_or_eq_true (((y17.2.1).length : Int) == (0 : Int)) with hc23 | hc23
   · replace h := ite_t hc23 h
     refine .gv (f_load (n := 0) (o := 4) (off := 0) (p := []) (c := .d (eGShard a0)) (z := .d (eGShard a0)) (by rfl) rfl ty74 (by rfl)) rfl rfl rfl hc23 (.c rfl .nil) (.cons rfl .nil) ?_
     obtain ⟨y24, hy25, h⟩ := bind_some h
     refine .gv (f_callP hgl (by rfl) en53 rfl (by rfl) (by rfl) (by rfl) (F53_shard_Count_ok hy25)) rfl rfl rfl hc23 (.c rfl .nil) .nil ?_
     refine .gv (f_move (by rfl)) rfl rfl rfl hc23 (.c rfl .nil) .nil ?_
     refine .gv (f_binI (by rfl) rfl (by rfl)) rfl rfl rfl hc23 (.c rfl (.c rfl .nil)) .nil ?_
     refine .v (f_pick_true (by rfl) hc23) rfl (.c rfl (.c rfl .nil)) .nil ?_
     refine .nil ?_
     obtain rfl := Option.some.inj h
     refine aq_weak (s' := ⟨[(7, .ptr 7 0 []), (8, .ptr 8 0 []), (11, .ptr 48 0 []), (12, .ptr 12 0 []), (13, .d (eL24 y17.2.1)), (78, .d (.val (.bool (decide (y24 ≥ a1)))))], [(7, .av (.d (eGTx a3))), (8, .av (.st [.d (.val (.slice none 0 0))])), (48, .av (.st [.st [.slc 1117 0 ((y11).length) 33]])), (12, .av (.d (eGLine y17.1))), (1117, .av (.d (.arr 33 ((y11).length) ((y11).map eGLine))))], []⟩) id hb0 (.keep rfl (.keep rfl (.keep rfl (.keep rfl (.keep rfl (.keep rfl .nil)))))) (.keep rfl (.keep rfl (.keep rfl (.keep rfl (.keep rfl .nil))))) rfl (by rfl) ?_
     exact jq
   replace h := ite_f hc23 h
   refine .off rfl rfl rfl hc23 rfl (by rfl) ?_
   refine .off rfl rfl rfl hc23 rfl (by rfl) ?_
   refine .off rfl rfl rfl hc23 rfl (by rfl) ?_
   refine .off rfl rfl rfl hc23 rfl (by rfl) ?_
   refine .v (f_pick_false (by rfl) hc23) rfl (.c rfl (.c rfl .nil)) .nil ?_
   refine .nil ?_
   obtain rfl := Option.some.inj h
   refine aq_weak (s' := ⟨[(7, .ptr 7 0 []), (8, .ptr 8 0 []), (11, .ptr 48 0 []), (12, .ptr 12 0 []), (13, .d (eL24 y17.2.1)), (78, .d (.val (.bool false)))], [(7, .av (.d (eGTx a3))), (8, .av (.st [.d (.val (.slice none 0 0))])), (48, .av (.st [.st [.slc 1117 0 ((y11).length) 33]])), (12, .av (.d (eGLine y17.1))), (1117, .av (.d (.arr 33 ((y11).length) ((y11).map eGLine))))], []⟩) id hb0 (.keep rfl (.keep rfl (.keep rfl (.keep rfl (.keep rfl (.keep rfl .nil)))))) (.keep rfl (.keep rfl (.keep rfl (.keep rfl (.keep rfl .nil))))) rfl (by rfl) ?_
   exact jq
 refine aq_then ?_
 refine aw_cond rfl (fun hc27 => ?_) (fun hc27 => ?_)
 · replace h := ite_t hc27 h
   refine aw_rs ?_
   refine .mv rfl (by rfl) ?_
   refine .v (f_load (n := 0) (o := 7) (off := 0) (p := []) (c := .d (eGTx a3)) (z := .d (eGTx a3)) (by rfl) rfl ty36 (by rfl)) rfl (.c rfl .nil) (.cons rfl .nil) ?_
   obtain ⟨y28, hy29, h⟩ := bind_some h
   refine .w (f_callG0 (xs := [.ptr 48 0 [], .d (eGTx a3)]) (r := .d (.val (.int .i64 y28))) (fun i => bif Nat.beq i 1 then 1117 else (bif Nat.beq i 0 then 48 else i)) [] hgl (by rfl) (cal_f en94) rfl (by rfl) (by rfl) (by rfl) (by rfl) (.cons (.same _) (.cons (.same _) .nil)) rfl rfl (F94_shard_part_worst_647_ok hy29)) rfl (.c rfl (.c rfl .nil)) (.cons rfl (.cons rfl .nil)) .nil ?_
   refine .as rfl (by rfl) ?_
   refine .nil (aq_then ?_)
   refine aw_seq ?_
   refine aw_rs ?_
   refine .mv rfl (by rfl) ?_
   refine .v (f_binI (by rfl) rfl (by rfl)) rfl (.c rfl (.c rfl .nil)) .nil ?_
   refine .nil (aq_then ?_)
   refine aw_cond rfl (fun hc30 => ?_) (fun hc30 => ?_)
   · replace h := ite_t hc30 h
     refine aw_rs ?_
     refine .v (f_load (n := 0) (o := 8) (off := 0) (p := []) (c := .st [.d (.val (.slice none 0 0))]) (z := .st [.d (.val (.slice none 0 0))]) (by rfl) rfl ty74 (by rfl)) rfl (.c rfl .nil) (.cons rfl .nil) ?_
     refine .s (f_store (n := 0) (o := 8) (off := 0) (p := []) (c := .st [.d (.val (.slice none 0 0))]) (old := .st [.d (.val (.slice none 0 0))]) (z := .st [.d (.val (.slice none 0 0))]) (c' := .st [.d (.val (.slice none 0 0))]) rfl rfl (by rfl) ty74 (by rfl)) rfl (.c rfl (.c rfl .nil)) (.cons rfl .nil) ?_
     refine .as rfl (by rfl) ?_
     refine .as rfl (by rfl) ?_
     refine .nil (aq_then ?_)
     refine aw_ret ?_
     refine aq_then_ret ?_
     refine aq_then_ret ?_
     obtain rfl := Option.some.inj h
     refine aq_freezeH [] [(8, .ptr 8 0 []), (9, .d (eL24 ([]))), (10, .d (.val (.int .i64 (9 : Int))))] [(8, .av (.d (eGShard (⟨[]⟩ : GShard))))] .nil (.keep rfl (.cons rfl .nil (.keep rfl .nil))) (.cons rfl (by rfl) (.st (.cons .nil .nil)) .nil) ?_
     exact aq_finp hb0 rfl (.cell rfl rfl ty74 (by rfl) (.tmp rfl (by rfl) (.tmp rfl (by rfl) .nil))) (by rfl) rfl ⟨rfl, rfl⟩
   replace h := ite_f hc30 h
   refine aw_skip ?_
   refine aq_then ?_
   refine aw_rs ?_
   refine .mv rfl (by rfl) ?_
   refine .v (f_nilCheck (by rfl)) rfl (.c rfl .nil) .nil ?_
   refine .v (f_fieldAddr (n := 0) (by rfl) fl132_0 (by decide)) rfl (.c rfl .nil) .nil ?_
   refine .v (f_fieldAddr (n := 0) (by rfl) fl74_0 (by decide)) rfl (.c rfl .nil) .nil ?_
   refine .v (f_load (n := 0) (o := 48) (off := ((0 + 0) + 0)) (p := [0, 0]) (c := .st [.st [.slc 1117 0 ((y11).length) 33]]) (z := .slc 1117 0 ((y11).length) 33) (by rfl) rfl ty72 (by rfl)) rfl (.c rfl .nil) (.cons rfl .nil) ?_
   refine .mv rfl (by rfl) ?_
   obtain ⟨x31, hx32, h⟩ := bind_some h
   obtain ⟨hx33, hx32⟩ := rd_some hx32
   refine .v (f_indexSW (by rfl) sl72 hx33 (rd_map _ hx32)) rfl (.c rfl (.c rfl .nil)) (.cons rfl .nil) ?_
   refine .v (f_load (n := 0) (o := 1117) (off := ((0 + (y28).toNat) * 33)) (p := [0 + (y28).toNat]) (c := .d (.arr 33 ((y11).length) ((y11).map eGLine))) (z := .d (eGLine x31)) (by rfl) (at_map _ (by simpa using hx32) rfl) ty26 (by rfl)) rfl (.c rfl .nil) (.cons rfl .nil) ?_
   refine .n (f_alloc 15 (by rfl) zrv26) rfl .nil rfl ?_
   refine .s (f_store (n := 0) (o := 15) (off := 0) (p := []) (c := .st [.d (eA22 (List.replicate 32 (0 : Int))), .d (.val (.slice none 0 0))]) (old := .st [.d (eA22 (List.replicate 32 (0 : Int))), .d (.val (.slice none 0 0))]) (z := .d (eGLine x31)) (c' := .d (eGLine x31)) rfl rfl (by rfl) ty26 (by rfl)) rfl (.c rfl (.c rfl .nil)) (.cons rfl .nil) ?_
   refine .nil (aq_then ?_)
   refine aw_rs ?_
   refine .v (f_fieldAddr (n := 32) (by rfl) fl26_1 (by decide)) rfl (.c rfl .nil) .nil ?_
   refine .v (f_load (n := 0) (o := 15) (off := (0 + 32)) (p := [1]) (c := .d (eGLine x31)) (z := .d (eL24 x31.Txs)) (by rfl) rfl ty24 (by rfl)) rfl (.c rfl .nil) (.cons rfl .nil) ?_
   refine .v (f_lenD (n := (x31.Txs).length) (by rfl) sl24 rfl (by simp)) rfl (.c rfl .nil) .nil ?_
   refine .v (f_binI (by rfl) rfl (by rfl)) rfl (.c rfl (.c rfl .nil)) .nil ?_
   refine .as rfl (by rfl) ?_
   refine .nil (aq_then ?_)
   refine aw_rds ?_
   refine .v (f_fieldAddr (n := 32) (by rfl) fl26_1 (by decide)) rfl (.c rfl .nil) .nil ?_
   refine .v (f_load (n := 0) (o := 15) (off := (0 + 32)) (p := [1]) (c := .d (eGLine x31)) (z := .d (eL24 x31.Txs)) (by rfl) rfl ty24 (by rfl)) rfl (.c rfl .nil) (.cons rfl .nil) ?_
   refine .v (f_move (by rfl)) rfl (.c rfl .nil) .nil ?_
   obtain ⟨x34, hx35, h⟩ := bind_some h
   obtain ⟨hx36, hx35⟩ := rd_some hx35
   refine .v (f_indexS (by rfl) sl24 hx36 (rd_map _ hx35)) rfl (.c rfl (.c rfl .nil)) .nil ?_
   refine .v (f_loadR (z := (eGTx x34)) (by rfl) ty36) rfl (.c rfl .nil) .nil ?_
   refine .n (f_buildS (xs := [(0, .d (eGTx x34))]) (z := (.st [(eA22 (List.replicate 32 (0 : Int))), (eA22 (List.replicate 32 (0 : Int))), (.val (.int .u64 (0 : Int))), (.val (.int .u64 (0 : Int))), (.val (.int .u64 (0 : Int))), (eA22 (List.replicate 32 (0 : Int)))])) (zs := (([x34] : List GTx)).map eGTx) 1125 (by rfl) el24 zel24 (by rfl) (by decide) (by decide) rfl (by rfl) ⟨_, _, _, rfl, pl24_0, rfl, rfl, trivial⟩ (by rfl)) rfl (.c rfl .nil) rfl ?_
   refine .v (f_fieldAddr (n := 32) (by rfl) fl26_1 (by decide)) rfl (.c rfl .nil) .nil ?_
   refine .v (f_load (n := 0) (o := 15) (off := (0 + 32)) (p := [1]) (c := .d (eGLine x31)) (z := .d (eL24 x31.Txs)) (by rfl) rfl ty24 (by rfl)) rfl (.c rfl .nil) (.cons rfl .nil) ?_
   refine .v (f_move (by rfl)) rfl (.c rfl .nil) .nil ?_
   refine .v (f_move (by rfl)) rfl (.c rfl .nil) .nil ?_
   obtain ⟨hb37, h⟩ := ifp h
   refine .v (f_sliceDM (k1 := .i64) (k2 := .i64) (k3 := .i64) (i := (0 : Int)) (j := (IntKind.i64.wrap (((x31.Txs).length : Int) - (1 : Int)))) (xs := (x31.Txs).map eGTx) (zs := ((x31.Txs).take ((IntKind.i64.wrap (((x31.Txs).length : Int) - (1 : Int)))).toNat).map eGTx) (by rfl) sl24 (by intro hx; first | rfl | cases hx) hb37.1 hb37.2.1 (by rw [List.length_map]; exact hb37.2.2) (by simp [List.map_take, List.map_drop])) rfl (.c rfl (.c rfl (.c rfl .nil))) .nil ?_
   refine .v (f_assign (by rfl)) rfl (.c rfl .nil) .nil ?_
   refine .v (f_fieldAddr (n := 32) (by rfl) fl26_1 (by decide)) rfl (.c rfl .nil) .nil ?_
   refine .s (f_store (n := 0) (o := 15) (off := (0 + 32)) (p := [1]) (c := .d (eGLine x31)) (old := .d (eL24 x31.Txs)) (z := .d (eL24 ((x31.Txs).take ((IntKind.i64.wrap (((x31.Txs).length : Int) - (1 : Int)))).toNat))) (c' := .d (eGLine ({ x31 with Txs := ((x31.Txs).take ((IntKind.i64.wrap (((x31.Txs).length : Int) - (1 : Int)))).toNat) }))) rfl rfl (by rfl) ty24 (by rfl)) rfl (.c rfl (.c rfl .nil)) (.cons rfl .nil) ?_
   refine .nil (by kernel_rfl) ?_
   refine aw_r ?_
   refine .mv rfl (by rfl) ?_
   refine .v (f_load (n := 0) (o := 15) (off := 0) (p := []) (c := .d (eGLine ({ x31 with Txs := ((x31.Txs).take ((IntKind.i64.wrap (((x31.Txs).length : Int) - (1 : Int)))).toNat) }))) (z := .d (eGLine ({ x31 with Txs := ((x31.Txs).take ((IntKind.i64.wrap (((x31.Txs).length : Int) - (1 : Int)))).toNat) }))) (by rfl) rfl ty26 (by rfl)) rfl (.c rfl .nil) (.cons rfl .nil) ?_
   obtain ⟨y38, hy39, h⟩ := bind_some h
   refine .w (f_callG (xs := [.ptr 48 0 [], .d (eGLine ({ x31 with Txs := ((x31.Txs).take ((IntKind.i64.wrap (((x31.Txs).length : Int) - (1 : Int)))).toNat) }))]) (r := .res []) (hw := [(48, .av (.st [.st [.slc 1126 0 ((y38).length) 33]])), (1117, .dead), (1126, .av (.d (.arr 33 ((y38).length) ((y38).map eGLine))))]) (fun i => bif Nat.beq i 1090 then 1126 else (bif Nat.beq i 1 then 1117 else (bif Nat.beq i 0 then 48 else i))) [] hgl (by rfl) (cal_f en95) rfl (by rfl) (by rfl) (by rfl) (by rfl) (.cons (.same _) (.cons (.same _) .nil)) rfl rfl rfl rfl (F95_shard_part_set_ddb_ok hy39)) rfl (.c rfl (.c rfl .nil)) (.cons rfl (.cons rfl .nil)) (.cons rfl .nil) ?_
   refine .nil ?_
   refine aq_then ?_
   refine aw_rs ?_
   refine .mv rfl (by rfl) ?_
   refine .v (f_load (n := 0) (o := 12) (off := 0) (p := []) (c := .d (eGLine y17.1)) (z := .d (eGLine y17.1)) (by rfl) rfl ty26 (by rfl)) rfl (.c rfl .nil) (.cons rfl .nil) ?_
   obtain ⟨y40, hy41, h⟩ := bind_some h
   refine .w (f_callG (xs := [.ptr 48 0 [], .d (eGLine y17.1)]) (r := .res []) (hw := [(48, .av (.st [.st [.slc 1127 0 ((y40).length) 33]])), (1126, .dead), (1127, .av (.d (.arr 33 ((y40).length) ((y40).map eGLine))))]) (fun i => bif Nat.beq i 1090 then 1127 else (bif Nat.beq i 1 then 1126 else (bif Nat.beq i 0 then 48 else i))) [] hgl (by rfl) (cal_f en95) rfl (by rfl) (by rfl) (by rfl) (by rfl) (.cons (.same _) (.cons (.same _) .nil)) rfl rfl rfl rfl (F95_shard_part_set_ddb_ok hy41)) rfl (.c rfl (.c rfl .nil)) (.cons rfl (.cons rfl .nil)) (.cons rfl .nil) ?_
   refine .nil (aq_then ?_)
   refine aw_rs ?_
   refine .mv rfl (by rfl) ?_
   refine .v (f_nilCheck (by rfl)) rfl (.c rfl .nil) .nil ?_
   refine .v (f_fieldAddr (n := 0) (by rfl) fl132_0 (by decide)) rfl (.c rfl .nil) .nil ?_
   refine .v (f_load (n := 0) (o := 48) (off := (0 + 0)) (p := [0]) (c := .st [.st [.slc 1127 0 ((y40).length) 33]]) (z := .st [.slc 1127 0 ((y40).length) 33]) (by rfl) rfl ty74 (by rfl)) rfl (.c rfl .nil) (.cons rfl .nil) ?_
   refine .mv rfl (by rfl) ?_
   refine .s (f_store (n := 0) (o := 8) (off := 0) (p := []) (c := .st [.d (.val (.slice none 0 0))]) (old := .st [.d (.val (.slice none 0 0))]) (z := .st [.slc 1127 0 ((y40).length) 33]) (c' := .st [.slc 1127 0 ((y40).length) 33]) rfl rfl (by rfl) ty74 (by rfl)) rfl (.c rfl (.c rfl .nil)) (.cons rfl .nil) ?_
   refine .as rfl (by rfl) ?_
   refine .as rfl (by rfl) ?_
   refine .nil (aq_then ?_)
   refine aw_ret ?_
   obtain rfl := Option.some.inj h
   refine aq_freezeH [(1125, (.arr 99 ((([x34] : List GTx)).length) ((([x34] : List GTx)).map eGTx))), (1127, (.arr 33 ((y40).length) ((y40).map eGLine)))] [(8, .ptr 8 0 []), (9, .d (eL24 ([x34] : List GTx))), (10, .d (.val (.int .i64 (0 : Int))))] [(8, .av (.d (eGShard (⟨y40⟩ : GShard)))), (48, .av (.d (eGshard_part (⟨(⟨y40⟩ : GShard)⟩ : Gshard_part))))] (.cons rfl (.cons rfl .nil)) (.keep rfl (.cons rfl (.whole (.head _)) (.keep rfl .nil))) (.cons rfl (by rfl) (.st (.cons (.whole (.tail _ (.head _))) .nil)) (.cons rfl (by rfl) (.st (.cons (.st (.cons (.whole (.tail _ (.head _))) .nil)) .nil)) .nil)) ?_
   exact aq_finp hb0 rfl (.cell rfl rfl ty74 (by rfl) (.tmp rfl (by rfl) (.tmp rfl (by rfl) .nil))) (by rfl) rfl ⟨rfl, rfl⟩
 replace h := ite_f hc27 h
 refine aw_skip ?_
 refine aq_then ?_
 refine aw_rs ?_
 refine .mv rfl (by rfl) ?_
 refine .v (f_load (n := 0) (o := 12) (off := 0) (p := []) (c := .d (eGLine y17.1)) (z := .d (eGLine y17.1)) (by rfl) rfl ty26 (by rfl)) rfl (.c rfl .nil) (.cons rfl .nil) ?_
 obtain ⟨y42, hy43, h⟩ := bind_some h
 refine .w (f_callG (xs := [.ptr 48 0 [], .d (eGLine y17.1)]) (r := .res []) (hw := [(48, .av (.st [.st [.slc 1128 0 ((y42).length) 33]])), (1117, .dead), (1128, .av (.d (.arr 33 ((y42).length) ((y42).map eGLine))))]) (fun i => bif Nat.beq i 1090 then 1128 else (bif Nat.beq i 1 then 1117 else (bif Nat.beq i 0 then 48 else i))) [] hgl (by rfl) (cal_f en95) rfl (by rfl) (by rfl) (by rfl) (by rfl) (.cons (.same _) (.cons (.same _) .nil)) rfl rfl rfl rfl (F95_shard_part_set_ddb_ok hy43)) rfl (.c rfl (.c rfl .nil)) (.cons rfl (.cons rfl .nil)) (.cons rfl .nil) ?_
 refine .nil (aq_then ?_)
 refine aw_rs ?_
 refine .mv rfl (by rfl) ?_
 refine .v (f_nilCheck (by rfl)) rfl (.c rfl .nil) .nil ?_
 refine .v (f_fieldAddr (n := 0) (by rfl) fl132_0 (by decide)) rfl (.c rfl .nil) .nil ?_
 refine .v (f_load (n := 0) (o := 48) (off := (0 + 0)) (p := [0]) (c := .st [.st [.slc 1128 0 ((y42).length) 33]]) (z := .st [.slc 1128 0 ((y42).length) 33]) (by rfl) rfl ty74 (by rfl)) rfl (.c rfl .nil) (.cons rfl .nil) ?_
 refine .mv rfl (by rfl) ?_
 refine .s (f_store (n := 0) (o := 8) (off := 0) (p := []) (c := .st [.d (.val (.slice none 0 0))]) (old := .st [.d (.val (.slice none 0 0))]) (z := .st [.slc 1128 0 ((y42).length) 33]) (c' := .st [.slc 1128 0 ((y42).length) 33]) rfl rfl (by rfl) ty74 (by rfl)) rfl (.c rfl (.c rfl .nil)) (.cons rfl .nil) ?_
 refine .as rfl (by rfl) ?_
 refine .as rfl (by rfl) ?_
 refine .nil (aq_then ?_)
 refine aw_ret ?_
 obtain rfl := Option.some.inj h
 refine aq_freezeH [(1128, (.arr 33 ((y42).length) ((y42).map eGLine)))] [(8, .ptr 8 0 []), (9, .d (eL24 y17.2.1)), (10, .d (.val (.int .i64 (0 : Int))))] [(8, .av (.d (eGShard (⟨y42⟩ : GShard)))), (48, .av (.d (eGshard_part (⟨(⟨y42⟩ : GShard)⟩ : Gshard_part))))] (.cons rfl .nil) (.keep rfl (.keep rfl (.keep rfl .nil))) (.cons rfl (by rfl) (.st (.cons (.whole (.head _)) .nil)) (.cons rfl (by rfl) (.st (.cons (.st (.cons (.whole (.head _)) .nil)) .nil)) .nil)) ?_
 exact aq_finp hb0 rfl (.cell rfl rfl ty74 (by rfl) (.tmp rfl (by rfl) (.tmp rfl (by rfl) .nil))) (by rfl) rfl ⟨rfl, rfl⟩

/- 108: beadroll/pool.Submit$1 -/
def F108_pool_Submit_1_5b5 (n : Nat) (a0 : GShard) (a1 : Int) (a2 : GAccount) (a3 : GTx) : Option ((List GTx) × Int × GShard) :=
  ((F50_shard_Submit n a0 a1 a2.Nonce a3).bind fun (y1 : GShard × (List GTx) × Int) => some (y1.2.1, y1.2.2, y1.1))
theorem F108_pool_Submit_1_5b5_ok {n : Nat} {a0 : GShard} {a1 : Int} {a2 : GAccount} {a3 : GTx} {r : (List GTx) × Int × GShard} (h : F108_pool_Submit_1_5b5 n a0 a1 a2 a3 = some r) :
    ACall Tryd.prog GS 108 [.d (eGShard a0), .ptr 0 0 [], .ptr 1 0 [], .ptr 2 0 []] [(0, .av (.d (.val (.int .i64 a1)))), (1, .av (.d (eGAccount a2))), (2, .av (.d (eGTx a3)))] (fun r' hp' => r' = .res [.d (eGShard r.2.2), .d (eL24 r.1), .d (.val (.int .i64 r.2.1))] ∧ hp' = [(5, .av (.d (eGShard r.2.2))), (0, .av (.d (.val (.int .i64 a1)))), (1, .av (.d (eGAccount a2))), (2, .av (.d (eGTx a3)))]) := by
 refine acall_of_body mixed Tryd.func108 rfl (by rfl) ?_
 intro C hro hgl hb0
 unfold F108_pool_Submit_1_5b5 at h
 refine aw_rs ?_
 refine .n (f_box 4 (by rfl) (by rfl)) rfl (.c rfl .nil) rfl ?_
 refine .n (f_alloc 5 (by rfl) zrv74) rfl .nil rfl ?_
 refine .as rfl (by rfl) ?_
 refine .as rfl (by rfl) ?_
 refine .nil (aq_then ?_)
 refine aw_rs ?_
 refine .v (f_load (n := 0) (o := 4) (off := 0) (p := []) (c := .d (eGShard a0)) (z := .d (eGShard a0)) (by rfl) rfl ty74 (by rfl)) rfl (.c rfl .nil) (.cons rfl .nil) ?_
 refine .v (f_load (n := 0) (o := 0) (off := 0) (p := []) (c := .d (.val (.int .i64 a1))) (z := .d (.val (.int .i64 a1))) (by rfl) rfl ty3 (by rfl)) rfl (.c rfl .nil) (.cons rfl .nil) ?_
 refine .v (f_fieldAddr (n := 0) (by rfl) fl95_0 (by decide)) rfl (.c rfl .nil) .nil ?_
 refine .v (f_load (n := 0) (o := 1) (off := (0 + 0)) (p := [0]) (c := .d (eGAccount a2)) (z := .d (.val (.int .u64 a2.Nonce))) (by rfl) rfl ty27 (by rfl)) rfl (.c rfl .nil) (.cons rfl .nil) ?_
 refine .v (f_load (n := 0) (o := 2) (off := 0) (p := []) (c := .d (eGTx a3)) (z := .d (eGTx a3)) (by rfl) rfl ty36 (by rfl)) rfl (.c rfl .nil) (.cons rfl .nil) ?_
 obtain ⟨y1, hy2, h⟩ := bind_some h
 refine .v (f_callP hgl (by rfl) en50 rfl (by rfl) (by rfl) (by rfl) (F50_shard_Submit_ok hy2)) rfl (.c rfl (.c rfl (.c rfl (.c rfl .nil)))) .nil ?_
 refine .v (f_extract (by rfl) rfl) rfl (.c rfl .nil) .nil ?_
 refine .v (f_extract (by rfl) rfl) rfl (.c rfl .nil) .nil ?_
 refine .v (f_extract (by rfl) rfl) rfl (.c rfl .nil) .nil ?_
 refine .s (f_store (n := 0) (o := 5) (off := 0) (p := []) (c := .st [.d (.val (.slice none 0 0))]) (old := .st [.d (.val (.slice none 0 0))]) (z := .d (eGShard y1.1)) (c' := .d (eGShard y1.1)) rfl rfl (by rfl) ty74 (by rfl)) rfl (.c rfl (.c rfl .nil)) (.cons rfl .nil) ?_
 refine .as rfl (by rfl) ?_
 refine .as rfl (by rfl) ?_
 refine .nil (aq_then ?_)
 refine aw_ret ?_
 obtain rfl := Option.some.inj h
 refine aq_weak (s' := ⟨[(5, .ptr 5 0 []), (6, .d (eL24 y1.2.1)), (7, .d (.val (.int .i64 y1.2.2)))], [(5, .av (.d (eGShard y1.1))), (0, .av (.d (.val (.int .i64 a1)))), (1, .av (.d (eGAccount a2))), (2, .av (.d (eGTx a3)))], []⟩) id hb0 (.keep rfl (.keep rfl (.keep rfl .nil))) (.keep rfl (.keep rfl (.keep rfl (.keep rfl .nil)))) rfl (by rfl) ?_
 exact aq_fin1 (.cell rfl rfl ty74 (by rfl) (.tmp rfl (by rfl) (.tmp rfl (by rfl) .nil))) rfl ⟨rfl, rfl⟩

/- 107: beadroll/pool.turned[[]beadroll/api.Tx] -/
def F107_api_Tx_1f2 (n : Nat) (a0 : (List GShard)) (a1 : Int) (a2 : Int) (a3 : GAccount) (a4 : GTx) : Option ((List GShard) × (List GTx) × Int) :=
  (((if (decide (a1 < (0 : Int))) = true then some true else some (decide (a1 ≥ ((a0).length : Int))))).bind fun (o2 : Bool) => (if o2 = true then some ([], [], (2 : Int)) else ((rd a0 a1).bind fun (x4 : GShard) => ((F108_pool_Submit_1_5b5 n x4 a2 a3 a4).bind fun (y7 : (List GTx) × Int × GShard) => (if (y7.2.1 != (0 : Int)) = true then some ([], [], y7.2.1) else ((F33_pool_Twin n a0).bind fun (y10 : List GShard) => ((rd y10 a1).bind fun (x12 : GShard) => some ((y10.set (0 + (a1).toNat) y7.2.2), y7.1, (0 : Int)))))))))
theorem F107_api_Tx_1f2_ok {n : Nat} {a0 : (List GShard)} {a1 : Int} {a2 : Int} {a3 : GAccount} {a4 : GTx} {r : (List GShard) × (List GTx) × Int} (h : F107_api_Tx_1f2 n a0 a1 a2 a3 a4 = some r) :
    ACall Tryd.prog GS 107 [.d (eL41 a0), .d (.val (.int .i64 a1)), .fn (.func 108) [] [.ptr 0 0 [], .ptr 1 0 [], .ptr 2 0 []]] [(0, .av (.d (.val (.int .i64 a2)))), (1, .av (.d (eGAccount a3))), (2, .av (.d (eGTx a4)))] (fun r' hp' => r' = .res [.d (eL41 r.1), .d (eL24 r.2.1), .d (.val (.int .i64 r.2.2))] ∧ hp' = [(0, .av (.d (.val (.int .i64 a2)))), (1, .av (.d (eGAccount a3))), (2, .av (.d (eGTx a4)))]) := by
 refine acall_of_body mixed Tryd.func107 rfl (by rfl) ?_
 intro C hro hgl hb0
 unfold F107_api_Tx_1f2 at h
 refine aw_rs ?_
 refine .as rfl (by rfl) ?_
 refine .as rfl (by rfl) ?_
 refine .as rfl (by rfl) ?_
 refine .nil (aq_then ?_)
 refine aw_rs ?_
 refine .as rfl (by rfl) ?_
 refine .nil (aq_then ?_)
 refine aw_seq ?_
 refine aw_seq ?_
 obtain ⟨o2, ho15, h⟩ := bind_some h
 refine aw_join (.normal) ⟨[(0, .d (eL41 a0)), (1, .d (.val (.int .i64 a1))), (2, .fn (.func 108) [] [.ptr 0 0 [], .ptr 1 0 [], .ptr 2 0 []]), (9, .d (.val (.slice none 0 0))), (18, .d (.val (.bool o2)))], [(0, .av (.d (.val (.int .i64 a2)))), (1, .av (.d (eGAccount a3))), (2, .av (.d (eGTx a4)))], []⟩ ?_ ?_
 · replace h := ho15
   refine aw_r ?_
   refine .mv rfl (by rfl) ?_
   refine .v (f_binI (by rfl) rfl (by rfl)) rfl (.c rfl (.c rfl .nil)) .nil ?_
   refine .mv rfl (by rfl) ?_
   rcases Bool.eq_false_or_eq_true (decide (a1 < (0 : Int))) with hc1 | hc1
   · replace h := ite_t hc1 h
     refine .off rfl rfl rfl hc1 rfl (by rfl) ?_
     refine .off rfl rfl rfl hc1 rfl (by rfl) ?_
     refine .off rfl rfl rfl hc1 rfl (by rfl) ?_
     refine .off rfl rfl rfl hc1 rfl (by rfl) ?_
     refine .v (f_pick_true (by rfl) hc1) rfl (.c rfl (.c rfl .nil)) .nil ?_
     refine .nil ?_
     obtain rfl := Option.some.inj h
     refine aq_weak (s' := ⟨[(0, .d (eL41 a0)), (1, .d (.val (.int .i64 a1))), (2, .fn (.func 108) [] [.ptr 0 0 [], .ptr 1 0 [], .ptr 2 0 []]), (9, .d (.val (.slice none 0 0))), (18, .d (.val (.bool true)))], [(0, .av (.d (.val (.int .i64 a2)))), (1, .av (.d (eGAccount a3))), (2, .av (.d (eGTx a4)))], []⟩) id hb0 (.keep rfl (.keep rfl (.keep rfl (.keep rfl (.keep rfl .nil))))) (.keep rfl (.keep rfl (.keep rfl .nil))) rfl (by rfl) ?_
     exact jq
   replace h := ite_f hc1 h
   refine .gv (f_move (by rfl)) rfl rfl rfl hc1 (.c rfl .nil) .nil ?_
   refine .gv (f_move (by rfl)) rfl rfl rfl hc1 (.c rfl .nil) .nil ?_
   refine .gv (f_lenD (n := (a0).length) (by rfl) sl41 rfl (by simp)) rfl rfl rfl hc1 (.c rfl .nil) .nil ?_
   refine .gv (f_binI (by rfl) rfl (by rfl)) rfl rfl rfl hc1 (.c rfl (.c rfl .nil)) .nil ?_
   refine .v (f_pick_false (by rfl) hc1) rfl (.c rfl (.c rfl .nil)) .nil ?_
   refine .nil ?_
   obtain rfl := Option.some.inj h
   refine aq_weak (s' := ⟨[(0, .d (eL41 a0)), (1, .d (.val (.int .i64 a1))), (2, .fn (.func 108) [] [.ptr 0 0 [], .ptr 1 0 [], .ptr 2 0 []]), (9, .d (.val (.slice none 0 0))), (18, .d (.val (.bool (decide (a1 ≥ ((a0).length : Int))))))], [(0, .av (.d (.val (.int .i64 a2)))), (1, .av (.d (eGAccount a3))), (2, .av (.d (eGTx a4)))], []⟩) id hb0 (.keep rfl (.keep rfl (.keep rfl (.keep rfl (.keep rfl .nil))))) (.keep rfl (.keep rfl (.keep rfl .nil))) rfl (by rfl) ?_
   exact jq
 refine aq_then ?_
 refine aw_cond rfl (fun hc3 => ?_) (fun hc3 => ?_)
 · replace h := ite_t hc3 h
   refine aw_rs ?_
   refine .mv rfl (by rfl) ?_
   refine .as rfl (by rfl) ?_
   refine .as rfl (by rfl) ?_
   refine .as rfl (by rfl) ?_
   refine .nil (aq_then ?_)
   refine aw_ret ?_
   refine aq_then_ret ?_
   obtain rfl := Option.some.inj h
   refine aq_freeze [] [(6, .d (eL41 ([]))), (7, .d (eL24 ([]))), (8, .d (.val (.int .i64 (2 : Int))))] .nil (.cons rfl .nil (.cons rfl .nil (.keep rfl .nil))) ?_
   refine aq_weak (s' := ⟨[(6, .d (eL41 ([]))), (7, .d (eL24 ([]))), (8, .d (.val (.int .i64 (2 : Int))))], [(0, .av (.d (.val (.int .i64 a2)))), (1, .av (.d (eGAccount a3))), (2, .av (.d (eGTx a4)))], []⟩) id hb0 (.keep rfl (.keep rfl (.keep rfl .nil))) (.keep rfl (.keep rfl (.keep rfl .nil))) rfl (by rfl) ?_
   exact aq_fin1 (.tmp rfl (by rfl) (.tmp rfl (by rfl) (.tmp rfl (by rfl) .nil))) rfl ⟨rfl, rfl⟩
 replace h := ite_f hc3 h
 refine aw_skip ?_
 refine aq_then ?_
 refine aw_rs ?_
 refine .mv rfl (by rfl) ?_
 refine .mv rfl (by rfl) ?_
 refine .mv rfl (by rfl) ?_
 obtain ⟨x4, hx5, h⟩ := bind_some h
 obtain ⟨hx6, hx5⟩ := rd_some hx5
 refine .v (f_indexS (by rfl) sl41 hx6 (rd_map _ hx5)) rfl (.c rfl (.c rfl .nil)) .nil ?_
 refine .v (f_loadR (z := (eGShard x4)) (by rfl) ty74) rfl (.c rfl .nil) .nil ?_
 obtain ⟨y7, hy8, h⟩ := bind_some h
 refine .w (f_callG (xs := [.d (eGShard x4)]) (r := .res [.d (eGShard y7.2.2), .d (eL24 y7.1), .d (.val (.int .i64 y7.2.1))]) (hw := [(1129, .av (.d (eGShard y7.2.2))), (0, .av (.d (.val (.int .i64 a2)))), (1, .av (.d (eGAccount a3))), (2, .av (.d (eGTx a4)))]) (fun i => bif Nat.beq i 5 then 1129 else i) [] hgl (by rfl) (cal_v (first := []) (caps := [.ptr 0 0 [], .ptr 1 0 [], .ptr 2 0 []]) en108) rfl (by rfl) (by rfl) (by rfl) (by rfl) (.cons (.same _) (.cons (.same _) (.cons (.same _) (.cons (.same _) .nil)))) rfl rfl rfl rfl (F108_pool_Submit_1_5b5_ok hy8)) rfl (.c rfl (.c rfl .nil)) (.cons rfl (.cons rfl (.cons rfl .nil))) (.cons rfl .nil) ?_
 refine .mv rfl (by rfl) ?_
 refine .v (f_extract (by rfl) rfl) rfl (.c rfl .nil) .nil ?_
 refine .v (f_extract (by rfl) rfl) rfl (.c rfl .nil) .nil ?_
 refine .v (f_extract (by rfl) rfl) rfl (.c rfl .nil) .nil ?_
 refine .n (f_alloc 10 (by rfl) zrv74) rfl .nil rfl ?_
 refine .s (f_store (n := 0) (o := 10) (off := 0) (p := []) (c := .st [.d (.val (.slice none 0 0))]) (old := .st [.d (.val (.slice none 0 0))]) (z := .d (eGShard y7.2.2)) (c' := .d (eGShard y7.2.2)) rfl rfl (by rfl) ty74 (by rfl)) rfl (.c rfl (.c rfl .nil)) (.cons rfl .nil) ?_
 refine .as rfl (by rfl) ?_
 refine .as rfl (by rfl) ?_
 refine .nil (aq_then ?_)
 refine aw_seq ?_
 refine aw_rs ?_
 refine .mv rfl (by rfl) ?_
 refine .v (f_binI (by rfl) rfl (by rfl)) rfl (.c rfl (.c rfl .nil)) .nil ?_
 refine .nil (aq_then ?_)
 refine aw_cond rfl (fun hc9 => ?_) (fun hc9 => ?_)
 · replace h := ite_t hc9 h
   refine aw_rs ?_
   refine .mv rfl (by rfl) ?_
   refine .mv rfl (by rfl) ?_
   refine .as rfl (by rfl) ?_
   refine .as rfl (by rfl) ?_
   refine .as rfl (by rfl) ?_
   refine .nil (aq_then ?_)
   refine aw_ret ?_
   refine aq_then_ret ?_
   obtain rfl := Option.some.inj h
   refine aq_freeze [] [(7, .d (eL24 ([]))), (8, .d (.val (.int .i64 y7.2.1))), (6, .d (eL41 ([])))] .nil (.cons rfl .nil (.keep rfl (.cons rfl .nil .nil))) ?_
   refine aq_weak (s' := ⟨[(6, .d (eL41 ([]))), (7, .d (eL24 ([]))), (8, .d (.val (.int .i64 y7.2.1)))], [(0, .av (.d (.val (.int .i64 a2)))), (1, .av (.d (eGAccount a3))), (2, .av (.d (eGTx a4)))], []⟩) id hb0 (.keep rfl (.keep rfl (.keep rfl .nil))) (.keep rfl (.keep rfl (.keep rfl .nil))) rfl (by rfl) ?_
   exact aq_fin1 (.tmp rfl (by rfl) (.tmp rfl (by rfl) (.tmp rfl (by rfl) .nil))) rfl ⟨rfl, rfl⟩
 replace h := ite_f hc9 h
 refine aw_skip ?_
 refine aq_then ?_
 refine aw_rs ?_
 refine .mv rfl (by rfl) ?_
 obtain ⟨y10, hy11, h⟩ := bind_some h
 refine .w (f_callG (xs := [.d (eL41 a0)]) (r := .slc 1130 0 ((y10).length) 1) (hw := [(1130, .av (.d (.arr 1 ((y10).length) ((y10).map eGShard))))]) (fun i => bif Nat.beq i 1106 then 1130 else i) [] hgl (by rfl) (cal_f en33) rfl (by rfl) (by rfl) (by rfl) (by rfl) (.cons (.same _) .nil) rfl rfl rfl rfl (F33_pool_Twin_ok hy11)) rfl (.c rfl .nil) .nil (.cons rfl .nil) ?_
 refine .as rfl (by rfl) ?_
 refine .nil (aq_then ?_)
 refine aw_rs ?_
 refine .mv rfl (by rfl) ?_
 refine .mv rfl (by rfl) ?_
 refine .v (f_load (n := 0) (o := 10) (off := 0) (p := []) (c := .d (eGShard y7.2.2)) (z := .d (eGShard y7.2.2)) (by rfl) rfl ty74 (by rfl)) rfl (.c rfl .nil) (.cons rfl .nil) ?_
 obtain ⟨x12, hx13, h⟩ := bind_some h
 obtain ⟨hx14, hx13⟩ := rd_some hx13
 refine .v (f_indexSW (by rfl) sl41 hx14 (rd_map _ hx13)) rfl (.c rfl (.c rfl .nil)) (.cons rfl .nil) ?_
 refine .s (f_store (n := 0) (o := 1130) (off := ((0 + (a1).toNat) * 1)) (p := [0 + (a1).toNat]) (c := .d (.arr 1 ((y10).length) ((y10).map eGShard))) (old := .d (eGShard x12)) (z := .d (eGShard y7.2.2)) (c' := .d (.arr 1 ((y10).length) (((y10.set (0 + (a1).toNat) y7.2.2)).map eGShard))) (at_map _ (by simpa using hx13) rfl) (put_map _ (by simpa using hx13)) (by rfl) ty74 (by rfl)) rfl (.c rfl (.c rfl .nil)) (.cons rfl .nil) ?_
 refine .nil (aq_then ?_)
 refine aw_rs ?_
 refine .mv rfl (by rfl) ?_
 refine .mv rfl (by rfl) ?_
 refine .as rfl (by rfl) ?_
 refine .as rfl (by rfl) ?_
 refine .as rfl (by rfl) ?_
 refine .nil (aq_then ?_)
 refine aw_ret ?_
 obtain rfl := Option.some.inj h
 refine aq_freeze [(1130, (.arr 1 ((y10).length) (((y10.set (0 + (a1).toNat) y7.2.2)).map eGShard)))] [(7, .d (eL24 y7.1)), (8, .d (.val (.int .i64 (0 : Int)))), (6, .d (eL41 (y10.set (0 + (a1).toNat) y7.2.2)))] (.cons rfl .nil) (.keep rfl (.keep rfl (.cons rfl (.whole (.head _)) .nil))) ?_
 refine aq_weak (s' := ⟨[(6, .d (eL41 (y10.set (0 + (a1).toNat) y7.2.2))), (7, .d (eL24 y7.1)), (8, .d (.val (.int .i64 (0 : Int))))], [(0, .av (.d (.val (.int .i64 a2)))), (1, .av (.d (eGAccount a3))), (2, .av (.d (eGTx a4)))], []⟩) id hb0 (.keep rfl (.keep rfl (.keep rfl .nil))) (.keep rfl (.keep rfl (.keep rfl .nil))) rfl (by rfl) ?_
 exact aq_fin1 (.tmp rfl (by rfl) (.tmp rfl (by rfl) (.tmp rfl (by rfl) .nil))) rfl ⟨rfl, rfl⟩

/- 68: beadroll/pool.Submit -/
def F68_pool_Submit (n : Nat) (a0 : (List GShard)) (a1 : Int) (a2 : GTree) (a3 : GTx) : Option ((List GShard) × (List GTx) × Int) :=
  ((F106_pool_asked n a0 a2).bind fun (y1 : Int) => (if (y1 != (0 : Int)) = true then some ([], [], y1) else ((F39_tx_From n a3).bind fun (y4 : (List Int)) => ((F23_pool_At n y4 ((a0).length : Int)).bind fun (y6 : Int × Int) => ((F64_acct_Get n a2 y4).bind fun (y8 : GAccount × Int) => ((F107_api_Tx_1f2 n a0 y6.1 a1 y8.1 a3).bind fun (y10 : (List GShard) × (List GTx) × Int) => some (y10.1, y10.2.1, y10.2.2)))))))
theorem F68_pool_Submit_ok {n : Nat} {a0 : (List GShard)} {a1 : Int} {a2 : GTree} {a3 : GTx} {r : (List GShard) × (List GTx) × Int} (h : F68_pool_Submit n a0 a1 a2 a3 = some r) :
    ACall Tryd.prog GS 68 [.d (eL41 a0), .d (.val (.int .i64 a1)), .d (eGTree a2), .d (eGTx a3)] [] (fun r' hp' => r' = .res [.d (eL41 r.1), .d (eL24 r.2.1), .d (.val (.int .i64 r.2.2))] ∧ hp' = []) := by
 refine acall_of_body mixed Tryd.func68 rfl (by rfl) ?_
 intro C hro hgl hb0
 unfold F68_pool_Submit at h
 refine aw_rs ?_
 refine .n (f_box 5 (by rfl) (by rfl)) rfl (.c rfl .nil) rfl ?_
 refine .n (f_box 6 (by rfl) (by rfl)) rfl (.c rfl .nil) rfl ?_
 refine .n (f_box 7 (by rfl) (by rfl)) rfl (.c rfl .nil) rfl ?_
 refine .as rfl (by rfl) ?_
 refine .as rfl (by rfl) ?_
 refine .as rfl (by rfl) ?_
 refine .nil (aq_then ?_)
 refine aw_seq ?_
 refine aw_rs ?_
 refine .mv rfl (by rfl) ?_
 refine .v (f_load (n := 0) (o := 6) (off := 0) (p := []) (c := .d (eGTree a2)) (z := .d (eGTree a2)) (by rfl) rfl ty90 (by rfl)) rfl (.c rfl .nil) (.cons rfl .nil) ?_
 obtain ⟨y1, hy2, h⟩ := bind_some h
 refine .v (f_callP hgl (by rfl) en106 rfl (by rfl) (by rfl) (by rfl) (F106_pool_asked_ok hy2)) rfl (.c rfl (.c rfl .nil)) .nil ?_
 refine .as rfl (by rfl) ?_
 refine .nil (aq_then ?_)
 refine aw_rs ?_
 refine .mv rfl (by rfl) ?_
 refine .v (f_binI (by rfl) rfl (by rfl)) rfl (.c rfl (.c rfl .nil)) .nil ?_
 refine .nil (aq_then ?_)
 refine aw_cond rfl (fun hc3 => ?_) (fun hc3 => ?_)
 · replace h := ite_t hc3 h
   refine aw_rs ?_
   refine .mv rfl (by rfl) ?_
   refine .as rfl (by rfl) ?_
   refine .as rfl (by rfl) ?_
   refine .as rfl (by rfl) ?_
   refine .nil (aq_then ?_)
   refine aw_ret ?_
   refine aq_then_ret ?_
   obtain rfl := Option.some.inj h
   refine aq_freeze [] [(8, .d (eL41 ([]))), (9, .d (eL24 ([]))), (10, .d (.val (.int .i64 y1)))] .nil (.cons rfl .nil (.cons rfl .nil (.keep rfl .nil))) ?_
   exact aq_finp hb0 rfl (.tmp rfl (by rfl) (.tmp rfl (by rfl) (.tmp rfl (by rfl) .nil))) (by rfl) rfl ⟨rfl, rfl⟩
 replace h := ite_f hc3 h
 refine aw_skip ?_
 refine aq_then ?_
 refine aw_rs ?_
 refine .v (f_load (n := 0) (o := 7) (off := 0) (p := []) (c := .d (eGTx a3)) (z := .d (eGTx a3)) (by rfl) rfl ty36 (by rfl)) rfl (.c rfl .nil) (.cons rfl .nil) ?_
 obtain ⟨y4, hy5, h⟩ := bind_some h
 refine .v (f_callP hgl (by rfl) en39 rfl (by rfl) (by rfl) (by rfl) (F39_tx_From_ok hy5)) rfl (.c rfl .nil) .nil ?_
 refine .n (f_alloc 12 (by rfl) zr23) rfl .nil rfl ?_
 refine .s (f_store (n := 0) (o := 12) (off := 0) (p := []) (c := .d (eA22 (List.replicate 32 (0 : Int)))) (old := .d (eA22 (List.replicate 32 (0 : Int)))) (z := .d (eA22 y4)) (c' := .d (eA22 y4)) rfl rfl (by rfl) ty23 (by rfl)) rfl (.c rfl (.c rfl .nil)) (.cons rfl .nil) ?_
 refine .nil (aq_then ?_)
 refine aw_rs ?_
 refine .v (f_load (n := 0) (o := 12) (off := 0) (p := []) (c := .d (eA22 y4)) (z := .d (eA22 y4)) (by rfl) rfl ty23 (by rfl)) rfl (.c rfl .nil) (.cons rfl .nil) ?_
 refine .mv rfl (by rfl) ?_
 refine .v (f_lenD (n := (a0).length) (by rfl) sl41 rfl (by simp)) rfl (.c rfl .nil) .nil ?_
 obtain ⟨y6, hy7, h⟩ := bind_some h
 refine .v (f_callP hgl (by rfl) en23 rfl (by rfl) (by rfl) (by rfl) (F23_pool_At_ok hy7)) rfl (.c rfl (.c rfl .nil)) .nil ?_
 refine .mv rfl (by rfl) ?_
 refine .v (f_extract (by rfl) rfl) rfl (.c rfl .nil) .nil ?_
 refine .v (f_extract (by rfl) rfl) rfl (.c rfl .nil) .nil ?_
 refine .as rfl (by rfl) ?_
 refine .as rfl (by rfl) ?_
 refine .nil (aq_then ?_)
 refine aw_rs ?_
 refine .v (f_load (n := 0) (o := 6) (off := 0) (p := []) (c := .d (eGTree a2)) (z := .d (eGTree a2)) (by rfl) rfl ty90 (by rfl)) rfl (.c rfl .nil) (.cons rfl .nil) ?_
 refine .v (f_load (n := 0) (o := 12) (off := 0) (p := []) (c := .d (eA22 y4)) (z := .d (eA22 y4)) (by rfl) rfl ty23 (by rfl)) rfl (.c rfl .nil) (.cons rfl .nil) ?_
 obtain ⟨y8, hy9, h⟩ := bind_some h
 refine .v (f_callP hgl (by rfl) en64 rfl (by rfl) (by rfl) (by rfl) (F64_acct_Get_ok hy9)) rfl (.c rfl (.c rfl .nil)) .nil ?_
 refine .mv rfl (by rfl) ?_
 refine .v (f_extract (by rfl) rfl) rfl (.c rfl .nil) .nil ?_
 refine .v (f_extract (by rfl) rfl) rfl (.c rfl .nil) .nil ?_
 refine .n (f_alloc 15 (by rfl) zr95) rfl .nil rfl ?_
 refine .s (f_store (n := 0) (o := 15) (off := 0) (p := []) (c := .d (eGAccount (⟨(0 : Int), (0 : Int)⟩ : GAccount))) (old := .d (eGAccount (⟨(0 : Int), (0 : Int)⟩ : GAccount))) (z := .d (eGAccount y8.1)) (c' := .d (eGAccount y8.1)) rfl rfl (by rfl) ty95 (by rfl)) rfl (.c rfl (.c rfl .nil)) (.cons rfl .nil) ?_
 refine .as rfl (by rfl) ?_
 refine .nil (aq_then ?_)
 refine aw_rs ?_
 refine .mv rfl (by rfl) ?_
 refine .mv rfl (by rfl) ?_
 refine .v (f_makeFunc (xs := []) (ys := [.ptr 5 0 [], .ptr 15 0 [], .ptr 7 0 []]) (by rfl) rfl rfl (by rfl) (by rfl)) rfl (.c rfl (.c rfl (.c rfl .nil))) .nil ?_
 obtain ⟨y10, hy11, h⟩ := bind_some h
 refine .w (f_callG0 (xs := [.d (eL41 a0), .d (.val (.int .i64 y6.1)), .fn (.func 108) [] [.ptr 5 0 [], .ptr 15 0 [], .ptr 7 0 []]]) (r := .res [.d (eL41 y10.1), .d (eL24 y10.2.1), .d (.val (.int .i64 y10.2.2))]) (fun i => bif Nat.beq i 2 then 7 else (bif Nat.beq i 1 then 15 else (bif Nat.beq i 0 then 5 else i))) [] hgl (by rfl) (cal_f en107) rfl (by rfl) (by rfl) (by rfl) (by rfl) (.cons (.same _) (.cons (.same _) (.cons (.same _) .nil))) rfl rfl (F107_api_Tx_1f2_ok hy11)) rfl (.c rfl (.c rfl (.c rfl .nil))) (.cons rfl (.cons rfl (.cons rfl .nil))) .nil ?_
 refine .v (f_extract (by rfl) rfl) rfl (.c rfl .nil) .nil ?_
 refine .v (f_extract (by rfl) rfl) rfl (.c rfl .nil) .nil ?_
 refine .v (f_extract (by rfl) rfl) rfl (.c rfl .nil) .nil ?_
 refine .as rfl (by rfl) ?_
 refine .as rfl (by rfl) ?_
 refine .as rfl (by rfl) ?_
 refine .nil (aq_then ?_)
 refine aw_ret ?_
 obtain rfl := Option.some.inj h
 exact aq_finp hb0 rfl (.tmp rfl (by rfl) (.tmp rfl (by rfl) (.tmp rfl (by rfl) .nil))) (by rfl) rfl ⟨rfl, rfl⟩

/- 66: beadroll/beadrolllaw21.alive -/
def F66_beadrolllaw21_alive (n : Nat)  : Option (Bool) :=
  ((F23_pool_At n ((List.replicate 32 (0 : Int)).set 31 (7 : Int)) (4 : Int)).bind fun (y1 : Int × Int) => ((F25_pool_New n (2 : Int)).bind fun (y3 : (List GShard) × Int) => ((F37_tx_Sign n (⟨(List.replicate 32 (0 : Int)), (List.replicate 32 (0 : Int)), (0 : Int), (0 : Int), (1 : Int), (List.replicate 32 (0 : Int))⟩ : GTx)).bind fun (y5 : GTx) => ((F68_pool_Submit n y3.1 (4 : Int) (⟨[], (0 : Int)⟩ : GTree) y5).bind fun (y7 : (List GShard) × (List GTx) × Int) => (((if (y1.2 == (0 : Int)) = true then (if (y1.1 == (3 : Int)) = true then (if (y3.2 == (0 : Int)) = true then (if (((y3.1).length : Int) == (2 : Int)) = true then (if (y7.2.2 == (0 : Int)) = true then (if (((y7.2.1).length : Int) == (0 : Int)) = true then ((F30_pool_Count n y7.1).bind fun (y15 : Int) => (if (y15 == (1 : Int)) = true then ((F30_pool_Count n y3.1).bind fun (y18 : Int) => some (y18 == (0 : Int))) else some false)) else some false) else some false) else some false) else some false) else some false) else some false)).bind fun (o20 : Bool) => some o20)))))
theorem F66_beadrolllaw21_alive_ok {n : Nat}  {r : Bool} (h : F66_beadrolllaw21_alive n  = some r) :
    ACall Tryd.prog GS 66 [] [] (fun r' hp' => r' = .d (.val (.bool r)) ∧ hp' = []) := by
 refine acall_of_body mixed Tryd.func66 rfl (by rfl) ?_
 intro C hro hgl hb0
 unfold F66_beadrolllaw21_alive at h
 refine aw_rs ?_
 refine .as rfl (by rfl) ?_
 refine .nil (aq_then ?_)
 refine aw_rs ?_
 refine .v (f_build (xs := [(31, .d (.val (.int .u8 (7 : Int))))]) (z' := .d (eA22 ((List.replicate 32 (0 : Int)).set 31 (7 : Int)))) (by rfl) zr23 ag23 rfl (by rfl) ⟨_, _, _, rfl, pl23_31, rfl, rfl, trivial⟩ (by rfl) (by rfl)) rfl (.c rfl .nil) .nil ?_
 refine .n (f_alloc 1 (by rfl) zr23) rfl .nil rfl ?_
 refine .s (f_store (n := 0) (o := 1) (off := 0) (p := []) (c := .d (eA22 (List.replicate 32 (0 : Int)))) (old := .d (eA22 (List.replicate 32 (0 : Int)))) (z := .d (eA22 ((List.replicate 32 (0 : Int)).set 31 (7 : Int)))) (c' := .d (eA22 ((List.replicate 32 (0 : Int)).set 31 (7 : Int)))) rfl rfl (by rfl) ty23 (by rfl)) rfl (.c rfl (.c rfl .nil)) (.cons rfl .nil) ?_
 refine .nil (aq_then ?_)
 refine aw_rs ?_
 refine .v (f_load (n := 0) (o := 1) (off := 0) (p := []) (c := .d (eA22 ((List.replicate 32 (0 : Int)).set 31 (7 : Int)))) (z := .d (eA22 ((List.replicate 32 (0 : Int)).set 31 (7 : Int)))) (by rfl) rfl ty23 (by rfl)) rfl (.c rfl .nil) (.cons rfl .nil) ?_
 obtain ⟨y1, hy2, h⟩ := bind_some h
 refine .v (f_callP hgl (by rfl) en23 rfl (by rfl) (by rfl) (by rfl) (F23_pool_At_ok hy2)) rfl (.c rfl (.c rfl .nil)) .nil ?_
 refine .mv rfl (by rfl) ?_
 refine .v (f_extract (by rfl) rfl) rfl (.c rfl .nil) .nil ?_
 refine .v (f_extract (by rfl) rfl) rfl (.c rfl .nil) .nil ?_
 refine .as rfl (by rfl) ?_
 refine .as rfl (by rfl) ?_
 refine .nil (aq_then ?_)
 refine aw_rs ?_
 obtain ⟨y3, hy4, h⟩ := bind_some h
 refine .v (f_callP hgl (by rfl) en25 rfl (by rfl) (by rfl) (by rfl) (F25_pool_New_ok hy4)) rfl (.c rfl .nil) .nil ?_
 refine .mv rfl (by rfl) ?_
 refine .v (f_extract (by rfl) rfl) rfl (.c rfl .nil) .nil ?_
 refine .v (f_extract (by rfl) rfl) rfl (.c rfl .nil) .nil ?_
 refine .as rfl (by rfl) ?_
 refine .as rfl (by rfl) ?_
 refine .nil (aq_then ?_)
 refine aw_rs ?_
 refine .v (f_build (xs := [(4, .d (.val (.int .u64 (1 : Int))))]) (z' := .d (eGTx (⟨(List.replicate 32 (0 : Int)), (List.replicate 32 (0 : Int)), (0 : Int), (0 : Int), (1 : Int), (List.replicate 32 (0 : Int))⟩ : GTx))) (by rfl) zr36 ag36 rfl (by rfl) ⟨_, _, _, rfl, pl36_4, rfl, rfl, trivial⟩ (by rfl) (by rfl)) rfl (.c rfl .nil) .nil ?_
 obtain ⟨y5, hy6, h⟩ := bind_some h
 refine .v (f_callP hgl (by rfl) en37 rfl (by rfl) (by rfl) (by rfl) (F37_tx_Sign_ok hy6)) rfl (.c rfl .nil) .nil ?_
 refine .n (f_alloc 6 (by rfl) zr36) rfl .nil rfl ?_
 refine .s (f_store (n := 0) (o := 6) (off := 0) (p := []) (c := .d (eGTx (⟨(List.replicate 32 (0 : Int)), (List.replicate 32 (0 : Int)), (0 : Int), (0 : Int), (0 : Int), (List.replicate 32 (0 : Int))⟩ : GTx))) (old := .d (eGTx (⟨(List.replicate 32 (0 : Int)), (List.replicate 32 (0 : Int)), (0 : Int), (0 : Int), (0 : Int), (List.replicate 32 (0 : Int))⟩ : GTx))) (z := .d (eGTx y5)) (c' := .d (eGTx y5)) rfl rfl (by rfl) ty36 (by rfl)) rfl (.c rfl (.c rfl .nil)) (.cons rfl .nil) ?_
 refine .nil (aq_then ?_)
 refine aw_rs ?_
 refine .mv rfl (by rfl) ?_
 refine .v (f_build (xs := []) (z' := .st [.d (.val (.slice none 0 0)), .d (.val (.int .i64 (0 : Int)))]) (by rfl) zrv90 ag90 rfl (by rfl) trivial (by rfl) (by rfl)) rfl .nil .nil ?_
 refine .v (f_load (n := 0) (o := 6) (off := 0) (p := []) (c := .d (eGTx y5)) (z := .d (eGTx y5)) (by rfl) rfl ty36 (by rfl)) rfl (.c rfl .nil) (.cons rfl .nil) ?_
 obtain ⟨y7, hy8, h⟩ := bind_some h
 refine .w (f_callG0 (xs := [.d (eL41 y3.1), .d (.val (.int .i64 (4 : Int))), .st [.d (.val (.slice none 0 0)), .d (.val (.int .i64 (0 : Int)))], .d (eGTx y5)]) (r := .res [.d (eL41 y7.1), .d (eL24 y7.2.1), .d (.val (.int .i64 y7.2.2))]) (fun i => i) [] hgl (by rfl) (cal_f en68) rfl (by rfl) (by rfl) (by rfl) (by rfl) (.cons (.same _) (.cons (.same _) (.cons (.st (.cons .nil (.cons (.same _) .nil))) (.cons (.same _) .nil)))) rfl rfl (F68_pool_Submit_ok hy8)) rfl (.c rfl (.c rfl (.c rfl (.c rfl .nil)))) .nil .nil ?_
 refine .mv rfl (by rfl) ?_
 refine .v (f_extract (by rfl) rfl) rfl (.c rfl .nil) .nil ?_
 refine .v (f_extract (by rfl) rfl) rfl (.c rfl .nil) .nil ?_
 refine .v (f_extract (by rfl) rfl) rfl (.c rfl .nil) .nil ?_
 refine .as rfl (by rfl) ?_
 refine .as rfl (by rfl) ?_
 refine .as rfl (by rfl) ?_
 refine .nil (aq_then ?_)
 refine aw_seq ?_
 obtain ⟨o20, ho21, h⟩ := bind_some h
 refine aw_join (.normal) ⟨[(0, .d (.val (.bool o20)))], [], []⟩ ?_ ?_
 · replace h := ho21
   refine aw_r ?_
   refine .mv rfl (by rfl) ?_
   refine .v (f_binI (by rfl) rfl (by rfl)) rfl (.c rfl (.c rfl .nil)) .nil ?_
   refine .mv rfl (by rfl) ?_
   rcases Bool.eq_false_or_eq_true (y1.2 == (0 : Int)) with hc9 | hc9
   · replace h := ite_t hc9 h
     refine .gv (f_move (by rfl)) rfl rfl rfl hc9 (.c rfl .nil) .nil ?_
     refine .gv (f_binI (by rfl) rfl (by rfl)) rfl rfl rfl hc9 (.c rfl (.c rfl .nil)) .nil ?_
     refine .v (f_pick_true (by rfl) hc9) rfl (.c rfl (.c rfl .nil)) .nil ?_
     refine .mv rfl (by rfl) ?_
     rcases Bool.eq_false_or_eq_true (y1.1 == (3 : Int)) with hc10 | hc10
     · replace h := ite_t hc10 h
       refine .gv (f_move (by rfl)) rfl rfl rfl hc10 (.c rfl .nil) .nil ?_
       refine .gv (f_binI (by rfl) rfl (by rfl)) rfl rfl rfl hc10 (.c rfl (.c rfl .nil)) .nil ?_
       refine .v (f_pick_true (by rfl) hc10) rfl (.c rfl (.c rfl .nil)) .nil ?_
       refine .mv rfl (by rfl) ?_
       rcases Bool.eq_false_or_eq_true (y3.2 == (0 : Int)) with hc11 | hc11
       · replace h := ite_t hc11 h
         refine .gv (f_move (by rfl)) rfl rfl rfl hc11 (.c rfl .nil) .nil ?_
         refine .gv (f_lenD (n := (y3.1).length) (by rfl) sl41 rfl (by simp)) rfl rfl rfl hc11 (.c rfl .nil) .nil ?_
         refine .gv (f_binI (by rfl) rfl (by rfl)) rfl rfl rfl hc11 (.c rfl (.c rfl .nil)) .nil ?_
         refine .v (f_pick_true (by rfl) hc11) rfl (.c rfl (.c rfl .nil)) .nil ?_
         refine .mv rfl (by rfl) ?_
         rcases Bool.eq_false_or_eq_true (((y3.1).length : Int) == (2 : Int)) with hc12 | hc12
         · replace h := ite_t hc12 h
           refine .gv (f_move (by rfl)) rfl rfl rfl hc12 (.c rfl .nil) .nil ?_
           refine .gv (f_binI (by rfl) rfl (by rfl)) rfl rfl rfl hc12 (.c rfl (.c rfl .nil)) .nil ?_
           refine .v (f_pick_true (by rfl) hc12) rfl (.c rfl (.c rfl .nil)) .nil ?_
           refine .mv rfl (by rfl) ?_
           rcases Bool.eq_false_or_eq_true (y7.2.2 == (0 : Int)) with hc13 | hc13
           · replace h := ite_t hc13 h
             refine .gv (f_move (by rfl)) rfl rfl rfl hc13 (.c rfl .nil) .nil ?_
             refine .gv (f_lenD (n := (y7.2.1).length) (by rfl) sl24 rfl (by simp)) rfl rfl rfl hc13 (.c rfl .nil) .nil ?_
             refine .gv (f_binI (by rfl) rfl (by rfl)) rfl rfl rfl hc13 (.c rfl (.c rfl .nil)) .nil ?_
             refine .v (f_pick_true (by rfl) hc13) rfl (.c rfl (.c rfl .nil)) .nil ?_
             refine .mv rfl (by rfl) ?_
             rcases Bool.eq_false_or_eq_true (((y7.2.1).length : Int) == (0 : Int)) with hc14 | hc14
             · replace h := ite_t hc14 h
               refine .gv (f_move (by rfl)) rfl rfl rfl hc14 (.c rfl .nil) .nil ?_
               obtain ⟨y15, hy16, h⟩ := bind_some h
               refine .gv (f_callP hgl (by rfl) en30 rfl (by rfl) (by rfl) (by rfl) (F30_pool_Count_ok hy16)) rfl rfl rfl hc14 (.c rfl .nil) .nil ?_
               refine .gv (f_binI (by rfl) rfl (by rfl)) rfl rfl rfl hc14 (.c rfl (.c rfl .nil)) .nil ?_
               refine .v (f_pick_true (by rfl) hc14) rfl (.c rfl (.c rfl .nil)) .nil ?_
               refine .mv rfl (by rfl) ?_
               rcases Bool.eq_false_or_eq_true (y15 == (1 : Int)) with hc17 | hc17
               · replace h := ite_t hc17 h
                 refine .gv (f_move (by rfl)) rfl rfl rfl hc17 (.c rfl .nil) .nil ?_
                 obtain ⟨y18, hy19, h⟩ := bind_some h
                 refine .gv (f_callP hgl (by rfl) en30 rfl (by rfl) (by rfl) (by rfl) (F30_pool_Count_ok hy19)) rfl rfl rfl hc17 (.c rfl .nil) .nil ?_
                 refine .gv (f_binI (by rfl) rfl (by rfl)) rfl rfl rfl hc17 (.c rfl (.c rfl .nil)) .nil ?_
                 refine .v (f_pick_true (by rfl) hc17) rfl (.c rfl (.c rfl .nil)) .nil ?_
                 refine .as rfl (by rfl) ?_
                 refine .nil ?_
                 obtain rfl := Option.some.inj h
                 refine aq_weak (s' := ⟨[(0, .d (.val (.bool (y18 == (0 : Int)))))], [], []⟩) id hb0 (.keep rfl .nil) .nil rfl (by rfl) ?_
                 exact jq
               replace h := ite_f hc17 h
               refine .off rfl rfl rfl hc17 rfl (by rfl) ?_
               refine .off rfl rfl rfl hc17 rfl (by rfl) ?_
               refine .off rfl rfl rfl hc17 rfl (by rfl) ?_
               refine .v (f_pick_false (by rfl) hc17) rfl (.c rfl (.c rfl .nil)) .nil ?_
               refine .as rfl (by rfl) ?_
               refine .nil ?_
               obtain rfl := Option.some.inj h
               refine aq_weak (s' := ⟨[(0, .d (.val (.bool false)))], [], []⟩) id hb0 (.keep rfl .nil) .nil rfl (by rfl) ?_
               exact jq
             replace h := ite_f hc14 h
             refine .off rfl rfl rfl hc14 rfl (by rfl) ?_
             refine .off rfl rfl rfl hc14 rfl (by rfl) ?_
             refine .off rfl rfl rfl hc14 rfl (by rfl) ?_
             refine .v (f_pick_false (by rfl) hc14) rfl (.c rfl (.c rfl .nil)) .nil ?_
             refine .mv rfl (by rfl) ?_
             refine .off rfl rfl rfl rfl rfl (by rfl) ?_
             refine .off rfl rfl rfl rfl rfl (by rfl) ?_
             refine .off rfl rfl rfl rfl rfl (by rfl) ?_
             refine .v (f_pick_false (by rfl) rfl) rfl (.c rfl (.c rfl .nil)) .nil ?_
             refine .as rfl (by rfl) ?_
             refine .nil ?_
             obtain rfl := Option.some.inj h
             refine aq_weak (s' := ⟨[(0, .d (.val (.bool false)))], [], []⟩) id hb0 (.keep rfl .nil) .nil rfl (by rfl) ?_
             exact jq
           replace h := ite_f hc13 h
           refine .off rfl rfl rfl hc13 rfl (by rfl) ?_
           refine .off rfl rfl rfl hc13 rfl (by rfl) ?_
           refine .off rfl rfl rfl hc13 rfl (by rfl) ?_
           refine .v (f_pick_false (by rfl) hc13) rfl (.c rfl (.c rfl .nil)) .nil ?_
           refine .mv rfl (by rfl) ?_
           refine .off rfl rfl rfl rfl rfl (by rfl) ?_
           refine .off rfl rfl rfl rfl rfl (by rfl) ?_
           refine .off rfl rfl rfl rfl rfl (by rfl) ?_
           refine .v (f_pick_false (by rfl) rfl) rfl (.c rfl (.c rfl .nil)) .nil ?_
           refine .mv rfl (by rfl) ?_
           refine .off rfl rfl rfl rfl rfl (by rfl) ?_
           refine .off rfl rfl rfl rfl rfl (by rfl) ?_
           refine .off rfl rfl rfl rfl rfl (by rfl) ?_
           refine .v (f_pick_false (by rfl) rfl) rfl (.c rfl (.c rfl .nil)) .nil ?_
           refine .as rfl (by rfl) ?_
           refine .nil ?_
           obtain rfl := Option.some.inj h
           refine aq_weak (s' := ⟨[(0, .d (.val (.bool false)))], [], []⟩) id hb0 (.keep rfl .nil) .nil rfl (by rfl) ?_
           exact jq
         replace h := ite_f hc12 h
         refine .off rfl rfl rfl hc12 rfl (by rfl) ?_
         refine .off rfl rfl rfl hc12 rfl (by rfl) ?_
         refine .v (f_pick_false (by rfl) hc12) rfl (.c rfl (.c rfl .nil)) .nil ?_
         refine .mv rfl (by rfl) ?_
         refine .off rfl rfl rfl rfl rfl (by rfl) ?_
         refine .off rfl rfl rfl rfl rfl (by rfl) ?_
         refine .off rfl rfl rfl rfl rfl (by rfl) ?_
         refine .v (f_pick_false (by rfl) rfl) rfl (.c rfl (.c rfl .nil)) .nil ?_
         refine .mv rfl (by rfl) ?_
         refine .off rfl rfl rfl rfl rfl (by rfl) ?_
         refine .off rfl rfl rfl rfl rfl (by rfl) ?_
         refine .off rfl rfl rfl rfl rfl (by rfl) ?_
         refine .v (f_pick_false (by rfl) rfl) rfl (.c rfl (.c rfl .nil)) .nil ?_
         refine .mv rfl (by rfl) ?_
         refine .off rfl rfl rfl rfl rfl (by rfl) ?_
         refine .off rfl rfl rfl rfl rfl (by rfl) ?_
         refine .off rfl rfl rfl rfl rfl (by rfl) ?_
         refine .v (f_pick_false (by rfl) rfl) rfl (.c rfl (.c rfl .nil)) .nil ?_
         refine .as rfl (by rfl) ?_
         refine .nil ?_
         obtain rfl := Option.some.inj h
         refine aq_weak (s' := ⟨[(0, .d (.val (.bool false)))], [], []⟩) id hb0 (.keep rfl .nil) .nil rfl (by rfl) ?_
         exact jq
       replace h := ite_f hc11 h
       refine .off rfl rfl rfl hc11 rfl (by rfl) ?_
       refine .off rfl rfl rfl hc11 rfl (by rfl) ?_
       refine .off rfl rfl rfl hc11 rfl (by rfl) ?_
       refine .v (f_pick_false (by rfl) hc11) rfl (.c rfl (.c rfl .nil)) .nil ?_
       refine .mv rfl (by rfl) ?_
       refine .off rfl rfl rfl rfl rfl (by rfl) ?_
       refine .off rfl rfl rfl rfl rfl (by rfl) ?_
       refine .v (f_pick_false (by rfl) rfl) rfl (.c rfl (.c rfl .nil)) .nil ?_
       refine .mv rfl (by rfl) ?_
       refine .off rfl rfl rfl rfl rfl (by rfl) ?_
       refine .off rfl rfl rfl rfl rfl (by rfl) ?_
       refine .off rfl rfl rfl rfl rfl (by rfl) ?_
       refine .v (f_pick_false (by rfl) rfl) rfl (.c rfl (.c rfl .nil)) .nil ?_
       refine .mv rfl (by rfl) ?_
       refine .off rfl rfl rfl rfl rfl (by rfl) ?_
       refine .off rfl rfl rfl rfl rfl (by rfl) ?_
       refine .off rfl rfl rfl rfl rfl (by rfl) ?_
       refine .v (f_pick_false (by rfl) rfl) rfl (.c rfl (.c rfl .nil)) .nil ?_
       refine .mv rfl (by rfl) ?_
       refine .off rfl rfl rfl rfl rfl (by rfl) ?_
       refine .off rfl rfl rfl rfl rfl (by rfl) ?_
       refine .off rfl rfl rfl rfl rfl (by rfl) ?_
       refine .v (f_pick_false (by rfl) rfl) rfl (.c rfl (.c rfl .nil)) .nil ?_
       refine .as rfl (by rfl) ?_
       refine .nil ?_
       obtain rfl := Option.some.inj h
       refine aq_weak (s' := ⟨[(0, .d (.val (.bool false)))], [], []⟩) id hb0 (.keep rfl .nil) .nil rfl (by rfl) ?_
       exact jq
     replace h := ite_f hc10 h
     refine .off rfl rfl rfl hc10 rfl (by rfl) ?_
     refine .off rfl rfl rfl hc10 rfl (by rfl) ?_
     refine .v (f_pick_false (by rfl) hc10) rfl (.c rfl (.c rfl .nil)) .nil ?_
     refine .mv rfl (by rfl) ?_
     refine .off rfl rfl rfl rfl rfl (by rfl) ?_
     refine .off rfl rfl rfl rfl rfl (by rfl) ?_
     refine .off rfl rfl rfl rfl rfl (by rfl) ?_
     refine .v (f_pick_false (by rfl) rfl) rfl (.c rfl (.c rfl .nil)) .nil ?_
     refine .mv rfl (by rfl) ?_
     refine .off rfl rfl rfl rfl rfl (by rfl) ?_
     refine .off rfl rfl rfl rfl rfl (by rfl) ?_
     refine .v (f_pick_false (by rfl) rfl) rfl (.c rfl (.c rfl .nil)) .nil ?_
     refine .mv rfl (by rfl) ?_
     refine .off rfl rfl rfl rfl rfl (by rfl) ?_
     refine .off rfl rfl rfl rfl rfl (by rfl) ?_
     refine .off rfl rfl rfl rfl rfl (by rfl) ?_
     refine .v (f_pick_false (by rfl) rfl) rfl (.c rfl (.c rfl .nil)) .nil ?_
     refine .mv rfl (by rfl) ?_
     refine .off rfl rfl rfl rfl rfl (by rfl) ?_
     refine .off rfl rfl rfl rfl rfl (by rfl) ?_
     refine .off rfl rfl rfl rfl rfl (by rfl) ?_
     refine .v (f_pick_false (by rfl) rfl) rfl (.c rfl (.c rfl .nil)) .nil ?_
     refine .mv rfl (by rfl) ?_
     refine .off rfl rfl rfl rfl rfl (by rfl) ?_
     refine .off rfl rfl rfl rfl rfl (by rfl) ?_
     refine .off rfl rfl rfl rfl rfl (by rfl) ?_
     refine .v (f_pick_false (by rfl) rfl) rfl (.c rfl (.c rfl .nil)) .nil ?_
     refine .as rfl (by rfl) ?_
     refine .nil ?_
     obtain rfl := Option.some.inj h
     refine aq_weak (s' := ⟨[(0, .d (.val (.bool false)))], [], []⟩) id hb0 (.keep rfl .nil) .nil rfl (by rfl) ?_
     exact jq
   replace h := ite_f hc9 h
   refine .off rfl rfl rfl hc9 rfl (by rfl) ?_
   refine .off rfl rfl rfl hc9 rfl (by rfl) ?_
   refine .v (f_pick_false (by rfl) hc9) rfl (.c rfl (.c rfl .nil)) .nil ?_
   refine .mv rfl (by rfl) ?_
   refine .off rfl rfl rfl rfl rfl (by rfl) ?_
   refine .off rfl rfl rfl rfl rfl (by rfl) ?_
   refine .v (f_pick_false (by rfl) rfl) rfl (.c rfl (.c rfl .nil)) .nil ?_
   refine .mv rfl (by rfl) ?_
   refine .off rfl rfl rfl rfl rfl (by rfl) ?_
   refine .off rfl rfl rfl rfl rfl (by rfl) ?_
   refine .off rfl rfl rfl rfl rfl (by rfl) ?_
   refine .v (f_pick_false (by rfl) rfl) rfl (.c rfl (.c rfl .nil)) .nil ?_
   refine .mv rfl (by rfl) ?_
   refine .off rfl rfl rfl rfl rfl (by rfl) ?_
   refine .off rfl rfl rfl rfl rfl (by rfl) ?_
   refine .v (f_pick_false (by rfl) rfl) rfl (.c rfl (.c rfl .nil)) .nil ?_
   refine .mv rfl (by rfl) ?_
   refine .off rfl rfl rfl rfl rfl (by rfl) ?_
   refine .off rfl rfl rfl rfl rfl (by rfl) ?_
   refine .off rfl rfl rfl rfl rfl (by rfl) ?_
   refine .v (f_pick_false (by rfl) rfl) rfl (.c rfl (.c rfl .nil)) .nil ?_
   refine .mv rfl (by rfl) ?_
   refine .off rfl rfl rfl rfl rfl (by rfl) ?_
   refine .off rfl rfl rfl rfl rfl (by rfl) ?_
   refine .off rfl rfl rfl rfl rfl (by rfl) ?_
   refine .v (f_pick_false (by rfl) rfl) rfl (.c rfl (.c rfl .nil)) .nil ?_
   refine .mv rfl (by rfl) ?_
   refine .off rfl rfl rfl rfl rfl (by rfl) ?_
   refine .off rfl rfl rfl rfl rfl (by rfl) ?_
   refine .off rfl rfl rfl rfl rfl (by rfl) ?_
   refine .v (f_pick_false (by rfl) rfl) rfl (.c rfl (.c rfl .nil)) .nil ?_
   refine .as rfl (by rfl) ?_
   refine .nil ?_
   obtain rfl := Option.some.inj h
   refine aq_weak (s' := ⟨[(0, .d (.val (.bool false)))], [], []⟩) id hb0 (.keep rfl .nil) .nil rfl (by rfl) ?_
   exact jq
 refine aq_then ?_
 refine aw_ret ?_
 obtain rfl := Option.some.inj h
 exact aq_finp hb0 rfl (.tmp rfl (by rfl) .nil) (by rfl) rfl ⟨rfl, rfl⟩

/- 14: beadroll/beadrolllaw21.PoolNames -/
def F14_beadrolllaw21_PoolNames (n : Nat)  : Option (Bool) :=
  ((F23_pool_At n (List.replicate 32 (0 : Int)) (0 : Int)).bind fun (y1 : Int × Int) => ((F25_pool_New n (9 : Int)).bind fun (y3 : (List GShard) × Int) => ((F25_pool_New n (2 : Int)).bind fun (y5 : (List GShard) × Int) => ((F72_pool_Draw n y5.1 (2 : Int) (⟨[], (0 : Int)⟩ : GTree) (1 : Int)).bind fun (y7 : (List GShard) × (List GTx) × Int) => ((((F66_beadrolllaw21_alive n ).bind fun (y9 : Bool) => (if y9 = true then (if (y1.2 == (2 : Int)) = true then (if (y3.2 == (2 : Int)) = true then (if (y7.2.2 == (2 : Int)) = true then ((F28_pool_Check n ([])).bind fun (y15 : Int) => (if (y15 == (8 : Int)) = true then ((F28_pool_Check n y5.1).bind fun (y18 : Int) => some (y18 == (0 : Int))) else some false)) else some false) else some false) else some false) else some false))).bind fun (o20 : Bool) => some o20)))))
theorem F14_beadrolllaw21_PoolNames_ok {n : Nat}  {r : Bool} (h : F14_beadrolllaw21_PoolNames n  = some r) :
    ACall Tryd.prog GS 14 [] [] (fun r' hp' => r' = .d (.val (.bool r)) ∧ hp' = []) := by
 refine acall_of_body mixed Tryd.func14 rfl (by rfl) ?_
 intro C hro hgl hb0
 unfold F14_beadrolllaw21_PoolNames at h
 refine aw_rs ?_
 refine .as rfl (by rfl) ?_
 refine .nil (aq_then ?_)
 refine aw_rs ?_
 refine .v (f_build (xs := []) (z' := .d (eA22 (List.replicate 32 (0 : Int)))) (by rfl) zr23 ag23 rfl (by rfl) trivial (by rfl) (by rfl)) rfl .nil .nil ?_
 obtain ⟨y1, hy2, h⟩ := bind_some h
 refine .v (f_callP hgl (by rfl) en23 rfl (by rfl) (by rfl) (by rfl) (F23_pool_At_ok hy2)) rfl (.c rfl (.c rfl .nil)) .nil ?_
 refine .mv rfl (by rfl) ?_
 refine .v (f_extract (by rfl) rfl) rfl (.c rfl .nil) .nil ?_
 refine .v (f_extract (by rfl) rfl) rfl (.c rfl .nil) .nil ?_
 refine .as rfl (by rfl) ?_
 refine .as rfl (by rfl) ?_
 refine .nil (aq_then ?_)
 refine aw_rs ?_
 obtain ⟨y3, hy4, h⟩ := bind_some h
 refine .v (f_callP hgl (by rfl) en25 rfl (by rfl) (by rfl) (by rfl) (F25_pool_New_ok hy4)) rfl (.c rfl .nil) .nil ?_
 refine .mv rfl (by rfl) ?_
 refine .v (f_extract (by rfl) rfl) rfl (.c rfl .nil) .nil ?_
 refine .v (f_extract (by rfl) rfl) rfl (.c rfl .nil) .nil ?_
 refine .as rfl (by rfl) ?_
 refine .as rfl (by rfl) ?_
 refine .nil (aq_then ?_)
 refine aw_rs ?_
 obtain ⟨y5, hy6, h⟩ := bind_some h
 refine .v (f_callP hgl (by rfl) en25 rfl (by rfl) (by rfl) (by rfl) (F25_pool_New_ok hy6)) rfl (.c rfl .nil) .nil ?_
 refine .mv rfl (by rfl) ?_
 refine .v (f_extract (by rfl) rfl) rfl (.c rfl .nil) .nil ?_
 refine .v (f_extract (by rfl) rfl) rfl (.c rfl .nil) .nil ?_
 refine .as rfl (by rfl) ?_
 refine .as rfl (by rfl) ?_
 refine .nil (aq_then ?_)
 refine aw_rs ?_
 refine .mv rfl (by rfl) ?_
 refine .v (f_build (xs := []) (z' := .st [.d (.val (.slice none 0 0)), .d (.val (.int .i64 (0 : Int)))]) (by rfl) zrv90 ag90 rfl (by rfl) trivial (by rfl) (by rfl)) rfl .nil .nil ?_
 obtain ⟨y7, hy8, h⟩ := bind_some h
 refine .w (f_callG0 (xs := [.d (eL41 y5.1), .d (.val (.int .i64 (2 : Int))), .st [.d (.val (.slice none 0 0)), .d (.val (.int .i64 (0 : Int)))], .d (.val (.int .i64 (1 : Int)))]) (r := .res [.d (eL41 y7.1), .d (eL24 y7.2.1), .d (.val (.int .i64 y7.2.2))]) (fun i => i) [] hgl (by rfl) (cal_f en72) rfl (by rfl) (by rfl) (by rfl) (by rfl) (.cons (.same _) (.cons (.same _) (.cons (.st (.cons .nil (.cons (.same _) .nil))) (.cons (.same _) .nil)))) rfl rfl (F72_pool_Draw_ok hy8)) rfl (.c rfl (.c rfl (.c rfl (.c rfl .nil)))) .nil .nil ?_
 refine .mv rfl (by rfl) ?_
 refine .v (f_extract (by rfl) rfl) rfl (.c rfl .nil) .nil ?_
 refine .v (f_extract (by rfl) rfl) rfl (.c rfl .nil) .nil ?_
 refine .v (f_extract (by rfl) rfl) rfl (.c rfl .nil) .nil ?_
 refine .as rfl (by rfl) ?_
 refine .as rfl (by rfl) ?_
 refine .as rfl (by rfl) ?_
 refine .nil (aq_then ?_)
 refine aw_seq ?_
 obtain ⟨o20, ho21, h⟩ := bind_some h
 refine aw_join (.normal) ⟨[(0, .d (.val (.bool o20)))], [], []⟩ ?_ ?_
 · replace h := ho21
   refine aw_r ?_
   obtain ⟨y9, hy10, h⟩ := bind_some h
   refine .v (f_callP hgl (by rfl) en66 rfl (by rfl) (by rfl) (by rfl) (F66_beadrolllaw21_alive_ok hy10)) rfl .nil .nil ?_
   refine .mv rfl (by rfl) ?_
   rcases Bool.eq_false_or_eq_true y9 with hc11 | hc11
   · replace h := ite_t hc11 h
     refine .v (f_pick_true (by rfl) hc11) rfl (.c rfl (.c rfl .nil)) .nil ?_
     refine .mv rfl (by rfl) ?_
     refine .v (f_pick_true (by rfl) rfl) rfl (.c rfl (.c rfl .nil)) .nil ?_
     refine .mv rfl (by rfl) ?_
     refine .gv (f_move (by rfl)) rfl rfl rfl rfl (.c rfl .nil) .nil ?_
     refine .gv (f_binI (by rfl) rfl (by rfl)) rfl rfl rfl rfl (.c rfl (.c rfl .nil)) .nil ?_
     refine .v (f_pick_true (by rfl) rfl) rfl (.c rfl (.c rfl .nil)) .nil ?_
     refine .mv rfl (by rfl) ?_
     rcases Bool.eq_false_or_eq_true (y1.2 == (2 : Int)) with hc12 | hc12
     · replace h := ite_t hc12 h
       refine .gv (f_move (by rfl)) rfl rfl rfl hc12 (.c rfl .nil) .nil ?_
       refine .gv (f_binI (by rfl) rfl (by rfl)) rfl rfl rfl hc12 (.c rfl (.c rfl .nil)) .nil ?_
       refine .v (f_pick_true (by rfl) hc12) rfl (.c rfl (.c rfl .nil)) .nil ?_
       refine .mv rfl (by rfl) ?_
       rcases Bool.eq_false_or_eq_true (y3.2 == (2 : Int)) with hc13 | hc13
       · replace h := ite_t hc13 h
         refine .gv (f_move (by rfl)) rfl rfl rfl hc13 (.c rfl .nil) .nil ?_
         refine .gv (f_binI (by rfl) rfl (by rfl)) rfl rfl rfl hc13 (.c rfl (.c rfl .nil)) .nil ?_
         refine .v (f_pick_true (by rfl) hc13) rfl (.c rfl (.c rfl .nil)) .nil ?_
         refine .mv rfl (by rfl) ?_
         rcases Bool.eq_false_or_eq_true (y7.2.2 == (2 : Int)) with hc14 | hc14
         · replace h := ite_t hc14 h
           obtain ⟨y15, hy16, h⟩ := bind_some h
           refine .gv (f_callP hgl (by rfl) en28 rfl (by rfl) (by rfl) (by rfl) (F28_pool_Check_ok hy16)) rfl rfl rfl hc14 (.s rfl ((SubA.d (SubD.nil 1)).sub rfl rfl) .nil) .nil ?_
           refine .gv (f_binI (by rfl) rfl (by rfl)) rfl rfl rfl hc14 (.c rfl (.c rfl .nil)) .nil ?_
           refine .v (f_pick_true (by rfl) hc14) rfl (.c rfl (.c rfl .nil)) .nil ?_
           refine .mv rfl (by rfl) ?_
           rcases Bool.eq_false_or_eq_true (y15 == (8 : Int)) with hc17 | hc17
           · replace h := ite_t hc17 h
             refine .gv (f_move (by rfl)) rfl rfl rfl hc17 (.c rfl .nil) .nil ?_
             obtain ⟨y18, hy19, h⟩ := bind_some h
             refine .gv (f_callP hgl (by rfl) en28 rfl (by rfl) (by rfl) (by rfl) (F28_pool_Check_ok hy19)) rfl rfl rfl hc17 (.c rfl .nil) .nil ?_
             refine .gv (f_binI (by rfl) rfl (by rfl)) rfl rfl rfl hc17 (.c rfl (.c rfl .nil)) .nil ?_
             refine .v (f_pick_true (by rfl) hc17) rfl (.c rfl (.c rfl .nil)) .nil ?_
             refine .as rfl (by rfl) ?_
             refine .nil ?_
             obtain rfl := Option.some.inj h
             refine aq_weak (s' := ⟨[(0, .d (.val (.bool (y18 == (0 : Int)))))], [], []⟩) id hb0 (.keep rfl .nil) .nil rfl (by rfl) ?_
             exact jq
           replace h := ite_f hc17 h
           refine .off rfl rfl rfl hc17 rfl (by rfl) ?_
           refine .off rfl rfl rfl hc17 rfl (by rfl) ?_
           refine .off rfl rfl rfl hc17 rfl (by rfl) ?_
           refine .v (f_pick_false (by rfl) hc17) rfl (.c rfl (.c rfl .nil)) .nil ?_
           refine .as rfl (by rfl) ?_
           refine .nil ?_
           obtain rfl := Option.some.inj h
           refine aq_weak (s' := ⟨[(0, .d (.val (.bool false)))], [], []⟩) id hb0 (.keep rfl .nil) .nil rfl (by rfl) ?_
           exact jq
         replace h := ite_f hc14 h
         refine .off rfl rfl rfl hc14 rfl (by rfl) ?_
         refine .off rfl rfl rfl hc14 rfl (by rfl) ?_
         refine .v (f_pick_false (by rfl) hc14) rfl (.c rfl (.c rfl .nil)) .nil ?_
         refine .mv rfl (by rfl) ?_
         refine .off rfl rfl rfl rfl rfl (by rfl) ?_
         refine .off rfl rfl rfl rfl rfl (by rfl) ?_
         refine .off rfl rfl rfl rfl rfl (by rfl) ?_
         refine .v (f_pick_false (by rfl) rfl) rfl (.c rfl (.c rfl .nil)) .nil ?_
         refine .as rfl (by rfl) ?_
         refine .nil ?_
         obtain rfl := Option.some.inj h
         refine aq_weak (s' := ⟨[(0, .d (.val (.bool false)))], [], []⟩) id hb0 (.keep rfl .nil) .nil rfl (by rfl) ?_
         exact jq
       replace h := ite_f hc13 h
       refine .off rfl rfl rfl hc13 rfl (by rfl) ?_
       refine .off rfl rfl rfl hc13 rfl (by rfl) ?_
       refine .v (f_pick_false (by rfl) hc13) rfl (.c rfl (.c rfl .nil)) .nil ?_
       refine .mv rfl (by rfl) ?_
       refine .off rfl rfl rfl rfl rfl (by rfl) ?_
       refine .off rfl rfl rfl rfl rfl (by rfl) ?_
       refine .v (f_pick_false (by rfl) rfl) rfl (.c rfl (.c rfl .nil)) .nil ?_
       refine .mv rfl (by rfl) ?_
       refine .off rfl rfl rfl rfl rfl (by rfl) ?_
       refine .off rfl rfl rfl rfl rfl (by rfl) ?_
       refine .off rfl rfl rfl rfl rfl (by rfl) ?_
       refine .v (f_pick_false (by rfl) rfl) rfl (.c rfl (.c rfl .nil)) .nil ?_
       refine .as rfl (by rfl) ?_
       refine .nil ?_
       obtain rfl := Option.some.inj h
       refine aq_weak (s' := ⟨[(0, .d (.val (.bool false)))], [], []⟩) id hb0 (.keep rfl .nil) .nil rfl (by rfl) ?_
       exact jq
     replace h := ite_f hc12 h
     refine .off rfl rfl rfl hc12 rfl (by rfl) ?_
     refine .off rfl rfl rfl hc12 rfl (by rfl) ?_
     refine .v (f_pick_false (by rfl) hc12) rfl (.c rfl (.c rfl .nil)) .nil ?_
     refine .mv rfl (by rfl) ?_
     refine .off rfl rfl rfl rfl rfl (by rfl) ?_
     refine .off rfl rfl rfl rfl rfl (by rfl) ?_
     refine .v (f_pick_false (by rfl) rfl) rfl (.c rfl (.c rfl .nil)) .nil ?_
     refine .mv rfl (by rfl) ?_
     refine .off rfl rfl rfl rfl rfl (by rfl) ?_
     refine .off rfl rfl rfl rfl rfl (by rfl) ?_
     refine .v (f_pick_false (by rfl) rfl) rfl (.c rfl (.c rfl .nil)) .nil ?_
     refine .mv rfl (by rfl) ?_
     refine .off rfl rfl rfl rfl rfl (by rfl) ?_
     refine .off rfl rfl rfl rfl rfl (by rfl) ?_
     refine .off rfl rfl rfl rfl rfl (by rfl) ?_
     refine .v (f_pick_false (by rfl) rfl) rfl (.c rfl (.c rfl .nil)) .nil ?_
     refine .as rfl (by rfl) ?_
     refine .nil ?_
     obtain rfl := Option.some.inj h
     refine aq_weak (s' := ⟨[(0, .d (.val (.bool false)))], [], []⟩) id hb0 (.keep rfl .nil) .nil rfl (by rfl) ?_
     exact jq
   replace h := ite_f hc11 h
   refine .v (f_pick_false (by rfl) hc11) rfl (.c rfl (.c rfl .nil)) .nil ?_
   refine .mv rfl (by rfl) ?_
   refine .v (f_pick_false (by rfl) rfl) rfl (.c rfl (.c rfl .nil)) .nil ?_
   refine .mv rfl (by rfl) ?_
   refine .off rfl rfl rfl rfl rfl (by rfl) ?_
   refine .off rfl rfl rfl rfl rfl (by rfl) ?_
   refine .v (f_pick_false (by rfl) rfl) rfl (.c rfl (.c rfl .nil)) .nil ?_
   refine .mv rfl (by rfl) ?_
   refine .off rfl rfl rfl rfl rfl (by rfl) ?_
   refine .off rfl rfl rfl rfl rfl (by rfl) ?_
   refine .v (f_pick_false (by rfl) rfl) rfl (.c rfl (.c rfl .nil)) .nil ?_
   refine .mv rfl (by rfl) ?_
   refine .off rfl rfl rfl rfl rfl (by rfl) ?_
   refine .off rfl rfl rfl rfl rfl (by rfl) ?_
   refine .v (f_pick_false (by rfl) rfl) rfl (.c rfl (.c rfl .nil)) .nil ?_
   refine .mv rfl (by rfl) ?_
   refine .off rfl rfl rfl rfl rfl (by rfl) ?_
   refine .off rfl rfl rfl rfl rfl (by rfl) ?_
   refine .v (f_pick_false (by rfl) rfl) rfl (.c rfl (.c rfl .nil)) .nil ?_
   refine .mv rfl (by rfl) ?_
   refine .off rfl rfl rfl rfl rfl (by rfl) ?_
   refine .off rfl rfl rfl rfl rfl (by rfl) ?_
   refine .off rfl rfl rfl rfl rfl (by rfl) ?_
   refine .v (f_pick_false (by rfl) rfl) rfl (.c rfl (.c rfl .nil)) .nil ?_
   refine .as rfl (by rfl) ?_
   refine .nil ?_
   obtain rfl := Option.some.inj h
   refine aq_weak (s' := ⟨[(0, .d (.val (.bool false)))], [], []⟩) id hb0 (.keep rfl .nil) .nil rfl (by rfl) ?_
   exact jq
 refine aq_then ?_
 refine aw_ret ?_
 obtain rfl := Option.some.inj h
 exact aq_finp hb0 rfl (.tmp rfl (by rfl) .nil) (by rfl) rfl ⟨rfl, rfl⟩
end Go.Proofs.YtonfljoibcnlgaaDoor
