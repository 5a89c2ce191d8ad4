/-
  PRINTED by wip/pr3.py: for each Go function a Lean function with the same answers, and the proof.
-/
import Derived.Test.YtonfljoibcnlgaaDoorXh
namespace Go.Proofs.YtonfljoibcnlgaaDoor
open Bd
set_option maxRecDepth 10000


theorem en76 : enterB Tryd.prog 76 = true := by kernel_rfl
theorem en83 : enterB Tryd.prog 83 = true := by kernel_rfl
theorem en47 : enterB Tryd.prog 47 = true := by kernel_rfl
theorem en20 : enterB Tryd.prog 20 = true := by kernel_rfl
theorem en17 : enterB Tryd.prog 17 = true := by kernel_rfl
theorem en35 : enterB Tryd.prog 35 = true := by kernel_rfl
theorem en16 : enterB Tryd.prog 16 = true := by kernel_rfl
theorem en19 : enterB Tryd.prog 19 = true := by kernel_rfl
theorem en34 : enterB Tryd.prog 34 = true := by kernel_rfl
theorem en15 : enterB Tryd.prog 15 = true := by kernel_rfl
theorem pl36_0 : placeB Tryd.prog 36 0 = some (0, 32) := by kernel_rfl
theorem pl23_0 : placeB Tryd.prog 23 0 = some (0, 1) := by kernel_rfl

/- 47: beadroll/queue.Twin -/
def F47_queue_Twin (n : Nat) (a0 : GLine) : Option ((List Int) × List GTx) :=
  ((F76_Clone n a0.Txs).bind fun (y1 : List GTx) => some (a0.From, y1))
theorem F47_queue_Twin_ok {n : Nat} {a0 : GLine} {r : (List Int) × List GTx} (h : F47_queue_Twin n a0 = some r) :
    ACall Tryd.prog GS 47 [.d (eGLine a0)] [] (fun r' hp' => r' = .st [.d (eA22 r.1), .slc 1063 0 ((r.2).length) 99] ∧ hp' = [(2, .av (.st [.d (eA22 r.1), .slc 1063 0 ((r.2).length) 99])), (1063, .av (.d (.arr 99 ((r.2).length) ((r.2).map eGTx))))]) := by
 refine acall_of_body mixed Tryd.func47 rfl (by rfl) ?_
 intro C hro hgl hb0
 unfold F47_queue_Twin at h
 refine aw_rs ?_
 refine .n (f_box 1 (by rfl) (by rfl)) rfl (.c rfl .nil) rfl ?_
 refine .n (f_alloc 2 (by rfl) zrv26) rfl .nil rfl ?_
 refine .nil (aq_then ?_)
 refine aw_rds ?_
 refine .v (f_fieldAddr (n := 0) (by rfl) fl26_0 (by decide)) rfl (.c rfl .nil) .nil ?_
 refine .v (f_load (n := 0) (o := 1) (off := (0 + 0)) (p := [0]) (c := .d (eGLine a0)) (z := .d (eA22 a0.From)) (by rfl) rfl ty23 (by rfl)) rfl (.c rfl .nil) (.cons rfl .nil) ?_
 refine .v (f_fieldAddr (n := 32) (by rfl) fl26_1 (by decide)) rfl (.c rfl .nil) .nil ?_
 refine .v (f_load (n := 0) (o := 1) (off := (0 + 32)) (p := [1]) (c := .d (eGLine a0)) (z := .d (eL24 a0.Txs)) (by rfl) rfl ty24 (by rfl)) rfl (.c rfl .nil) (.cons rfl .nil) ?_
 obtain ⟨y1, hy2, h⟩ := bind_some h
 refine .w (f_callG (xs := [.d (eL24 a0.Txs)]) (r := .slc 1063 0 ((y1).length) 99) (hw := [(1063, .av (.d (.arr 99 ((y1).length) ((y1).map eGTx))))]) (fun i => bif Nat.beq i 0 then 1063 else i) [] hgl (by rfl) (cal_f en76) rfl (by rfl) (by rfl) (by rfl) (by rfl) (.cons (.same _) .nil) rfl rfl rfl rfl (F76_Clone_ok hy2)) rfl (.c rfl .nil) .nil (.cons rfl .nil) ?_
 refine .v (f_build (xs := [(0, .d (eA22 a0.From)), (1, .slc 1063 0 ((y1).length) 99)]) (z' := .st [.d (eA22 a0.From), .slc 1063 0 ((y1).length) 99]) (by rfl) zrv26 ag26 rfl (by rfl) ⟨_, _, _, rfl, pl26_0, rfl, rfl, ⟨_, _, _, rfl, pl26_1, rfl, rfl, trivial⟩⟩ (by rfl) (by rfl)) rfl (.c rfl (.c rfl .nil)) .nil ?_
 refine .s (f_store (n := 0) (o := 2) (off := 0) (p := []) (c := .st [.d (eA22 (List.replicate 32 (0 : Int))), .d (.val (.slice none 0 0))]) (old := .st [.d (eA22 (List.replicate 32 (0 : Int))), .d (.val (.slice none 0 0))]) (z := .st [.d (eA22 a0.From), .slc 1063 0 ((y1).length) 99]) (c' := .st [.d (eA22 a0.From), .slc 1063 0 ((y1).length) 99]) rfl rfl (by rfl) ty26 (by rfl)) rfl (.c rfl (.c rfl .nil)) (.cons rfl .nil) ?_
 refine .nil (by kernel_rfl) ?_
 refine aw_ret ?_
 obtain rfl := Option.some.inj h
 refine aq_weak (s' := ⟨[(2, .ptr 2 0 [])], [(2, .av (.st [.d (eA22 a0.From), .slc 1063 0 ((y1).length) 99])), (1063, .av (.d (.arr 99 ((y1).length) ((y1).map eGTx))))], []⟩) id hb0 (.keep rfl .nil) (.keep rfl (.keep rfl .nil)) rfl (by rfl) ?_
 exact aq_fin1 (.cell rfl rfl ty26 (by rfl) .nil) rfl ⟨rfl, rfl⟩

/- 34: beadroll/queue.Put -/
def F34_queue_Put (n : Nat) (a0 : GLine) (a1 : GTx) : Option (GLine × (List GTx) × Int) :=
  ((F18_queue_Check n a0).bind fun (y1 : Int) => (if (y1 != (0 : Int)) = true then some ((⟨(List.replicate 32 (0 : Int)), []⟩ : GLine), [], (8 : Int)) else ((F77_queue_own n a1 a0.From).bind fun (y4 : Bool) => (if (!y4) = true then some ((⟨(List.replicate 32 (0 : Int)), []⟩ : GLine), [], (2 : Int)) else ((F74_queue_nonces n a0).bind fun (y7 : (List GTx)) => ((F75_api_Tx_ahead_844 n y7 a1.Nonce).bind fun (y9 : Int) => ((F47_queue_Twin n a0).bind fun (y11 : (List Int) × List GTx) => (((if (decide (y9 < ((a0.Txs).length : Int))) = true then ((rd a0.Txs y9).bind fun (x14 : GTx) => some (x14.Nonce == a1.Nonce)) else some false)).bind fun (o17 : Bool) => (if o17 = true then ((rd a0.Txs y9).bind fun (x19 : GTx) => (if (decide (a1.Fee ≤ x19.Fee)) = true then some ((⟨(List.replicate 32 (0 : Int)), []⟩ : GLine), [], (190 : Int)) else ((rd y11.2 y9).bind fun (x23 : GTx) => ((rd a0.Txs y9).bind fun (x26 : GTx) => some ((⟨y11.1, (y11.2.set (0 + (y9).toNat) a1)⟩ : GLine), ([x26] : List GTx), (0 : Int)))))) else (if (((a0.Txs).length : Int) == (256 : Int)) = true then some ((⟨(List.replicate 32 (0 : Int)), []⟩ : GLine), [], (9 : Int)) else ((F83_Insert n y9 y11.2 ([a1] : List GTx)).bind fun (y30 : List GTx) => some ((⟨y11.1, y30⟩ : GLine), [], (0 : Int)))))))))))))
theorem F34_queue_Put_ok {n : Nat} {a0 : GLine} {a1 : GTx} {r : GLine × (List GTx) × Int} (h : F34_queue_Put n a0 a1 = some r) :
    ACall Tryd.prog GS 34 [.d (eGLine a0), .d (eGTx a1)] [] (fun r' hp' => r' = .res [.d (eGLine r.1), .d (eL24 r.2.1), .d (.val (.int .i64 r.2.2))] ∧ hp' = []) := by
 refine acall_of_body mixed Tryd.func34 rfl (by rfl) ?_
 intro C hro hgl hb0
 unfold F34_queue_Put at h
 refine aw_rs ?_
 refine .n (f_box 2 (by rfl) (by rfl)) rfl (.c rfl .nil) rfl ?_
 refine .n (f_box 3 (by rfl) (by rfl)) rfl (.c rfl .nil) rfl ?_
 refine .n (f_alloc 4 (by rfl) zrv26) rfl .nil rfl ?_
 refine .as rfl (by rfl) ?_
 refine .as rfl (by rfl) ?_
 refine .nil (aq_then ?_)
 refine aw_seq ?_
 refine aw_block ?_
 refine aw_rs ?_
 refine .v (f_load (n := 0) (o := 2) (off := 0) (p := []) (c := .d (eGLine a0)) (z := .d (eGLine a0)) (by rfl) rfl ty26 (by rfl)) rfl (.c rfl .nil) (.cons rfl .nil) ?_
 obtain ⟨y1, hy2, h⟩ := bind_some h
 refine .v (f_callP hgl (by rfl) en18 rfl (by rfl) (by rfl) (by rfl) (F18_queue_Check_ok hy2)) rfl (.c rfl .nil) .nil ?_
 refine .v (f_binI (by rfl) rfl (by rfl)) rfl (.c rfl (.c rfl .nil)) .nil ?_
 refine .as rfl (by rfl) ?_
 refine .nil (aq_then ?_)
 refine aw_cond rfl (fun hc3 => ?_) (fun hc3 => ?_)
 · replace h := ite_t hc3 h
   refine aw_rs ?_
   refine .v (f_load (n := 0) (o := 4) (off := 0) (p := []) (c := .st [.d (eA22 (List.replicate 32 (0 : Int))), .d (.val (.slice none 0 0))]) (z := .st [.d (eA22 (List.replicate 32 (0 : Int))), .d (.val (.slice none 0 0))]) (by rfl) rfl ty26 (by rfl)) rfl (.c rfl .nil) (.cons rfl .nil) ?_
   refine .s (f_store (n := 0) (o := 4) (off := 0) (p := []) (c := .st [.d (eA22 (List.replicate 32 (0 : Int))), .d (.val (.slice none 0 0))]) (old := .st [.d (eA22 (List.replicate 32 (0 : Int))), .d (.val (.slice none 0 0))]) (z := .st [.d (eA22 (List.replicate 32 (0 : Int))), .d (.val (.slice none 0 0))]) (c' := .st [.d (eA22 (List.replicate 32 (0 : Int))), .d (.val (.slice none 0 0))]) rfl rfl (by rfl) ty26 (by rfl)) rfl (.c rfl (.c rfl .nil)) (.cons rfl .nil) ?_
   refine .as rfl (by rfl) ?_
   refine .as rfl (by rfl) ?_
   refine .nil (aq_then ?_)
   refine aw_ret ?_
   refine aq_block_ret ?_
   refine aq_then_ret ?_
   obtain rfl := Option.some.inj h
   refine aq_freezeH [] [(4, .ptr 4 0 []), (5, .d (eL24 ([]))), (6, .d (.val (.int .i64 (8 : Int))))] [(4, .av (.d (eGLine (⟨(List.replicate 32 (0 : Int)), []⟩ : GLine))))] .nil (.keep rfl (.cons rfl .nil (.keep rfl .nil))) (.cons rfl (by rfl) (.st (.cons (.same _) (.cons .nil .nil))) .nil) ?_
   exact aq_finp hb0 rfl (.cell rfl rfl ty26 (by rfl) (.tmp rfl (by rfl) (.tmp rfl (by rfl) .nil))) (by rfl) rfl ⟨rfl, rfl⟩
 replace h := ite_f hc3 h
 refine aw_rs ?_
 refine .v (f_load (n := 0) (o := 3) (off := 0) (p := []) (c := .d (eGTx a1)) (z := .d (eGTx a1)) (by rfl) rfl ty36 (by rfl)) rfl (.c rfl .nil) (.cons rfl .nil) ?_
 refine .v (f_fieldAddr (n := 0) (by rfl) fl26_0 (by decide)) rfl (.c rfl .nil) .nil ?_
 refine .v (f_load (n := 0) (o := 2) (off := (0 + 0)) (p := [0]) (c := .d (eGLine a0)) (z := .d (eA22 a0.From)) (by rfl) rfl ty23 (by rfl)) rfl (.c rfl .nil) (.cons rfl .nil) ?_
 obtain ⟨y4, hy5, h⟩ := bind_some h
 refine .v (f_callP hgl (by rfl) en77 rfl (by rfl) (by rfl) (by rfl) (F77_queue_own_ok hy5)) rfl (.c rfl (.c rfl .nil)) .nil ?_
 refine .v (f_not (by rfl)) rfl (.c rfl .nil) .nil ?_
 refine .as rfl (by rfl) ?_
 refine .nil (aq_then ?_)
 refine aw_cond rfl (fun hc6 => ?_) (fun hc6 => ?_)
 · replace h := ite_t hc6 h
   refine aw_rs ?_
   refine .v (f_load (n := 0) (o := 4) (off := 0) (p := []) (c := .st [.d (eA22 (List.replicate 32 (0 : Int))), .d (.val (.slice none 0 0))]) (z := .st [.d (eA22 (List.replicate 32 (0 : Int))), .d (.val (.slice none 0 0))]) (by rfl) rfl ty26 (by rfl)) rfl (.c rfl .nil) (.cons rfl .nil) ?_
   refine .s (f_store (n := 0) (o := 4) (off := 0) (p := []) (c := .st [.d (eA22 (List.replicate 32 (0 : Int))), .d (.val (.slice none 0 0))]) (old := .st [.d (eA22 (List.replicate 32 (0 : Int))), .d (.val (.slice none 0 0))]) (z := .st [.d (eA22 (List.replicate 32 (0 : Int))), .d (.val (.slice none 0 0))]) (c' := .st [.d (eA22 (List.replicate 32 (0 : Int))), .d (.val (.slice none 0 0))]) rfl rfl (by rfl) ty26 (by rfl)) rfl (.c rfl (.c rfl .nil)) (.cons rfl .nil) ?_
   refine .as rfl (by rfl) ?_
   refine .as rfl (by rfl) ?_
   refine .nil (aq_then ?_)
   refine aw_ret ?_
   refine aq_block_ret ?_
   refine aq_then_ret ?_
   obtain rfl := Option.some.inj h
   refine aq_freezeH [] [(4, .ptr 4 0 []), (5, .d (eL24 ([]))), (6, .d (.val (.int .i64 (2 : Int))))] [(4, .av (.d (eGLine (⟨(List.replicate 32 (0 : Int)), []⟩ : GLine))))] .nil (.keep rfl (.cons rfl .nil (.keep rfl .nil))) (.cons rfl (by rfl) (.st (.cons (.same _) (.cons .nil .nil))) .nil) ?_
   exact aq_finp hb0 rfl (.cell rfl rfl ty26 (by rfl) (.tmp rfl (by rfl) (.tmp rfl (by rfl) .nil))) (by rfl) rfl ⟨rfl, rfl⟩
 replace h := ite_f hc6 h
 refine aw_skip ?_
 refine aq_block ?_
 refine aq_then ?_
 refine aw_rds ?_
 refine .v (f_load (n := 0) (o := 2) (off := 0) (p := []) (c := .d (eGLine a0)) (z := .d (eGLine a0)) (by rfl) rfl ty26 (by rfl)) rfl (.c rfl .nil) (.cons rfl .nil) ?_
 obtain ⟨y7, hy8, h⟩ := bind_some h
 refine .w (f_callG (xs := [.d (eGLine a0)]) (r := .st [.d (eL24 y7), .fn (.func 111) [] []]) (hw := [(1064, .av (.st [.d (eL24 y7), .fn (.func 111) [] []]))]) (fun i => bif Nat.beq i 2 then 1064 else i) [] hgl (by rfl) (cal_f en74) rfl (by rfl) (by rfl) (by rfl) (by rfl) (.cons (.same _) .nil) rfl rfl rfl rfl (F74_queue_nonces_ok hy8)) rfl (.c rfl .nil) .nil (.cons rfl .nil) ?_
 refine .v (f_fieldAddr (n := 64) (by rfl) fl36_2 (by decide)) rfl (.c rfl .nil) .nil ?_
 refine .v (f_load (n := 0) (o := 3) (off := (0 + 64)) (p := [2]) (c := .d (eGTx a1)) (z := .d (.val (.int .u64 a1.Nonce))) (by rfl) rfl ty27 (by rfl)) rfl (.c rfl .nil) (.cons rfl .nil) ?_
 obtain ⟨y9, hy10, h⟩ := bind_some h
 refine .w (f_callG0 (xs := [.st [.d (eL24 y7), .fn (.func 111) [] []], .d (.val (.int .u64 a1.Nonce))]) (r := .d (.val (.int .i64 y9))) (fun i => i) [] hgl (by rfl) (cal_f en75) rfl (by rfl) (by rfl) (by rfl) (by rfl) (.cons (.same _) (.cons (.same _) .nil)) rfl rfl (F75_api_Tx_ahead_844_ok hy10)) rfl (.c rfl (.c rfl .nil)) .nil .nil ?_
 refine .v (f_assign (by rfl)) rfl (.c rfl .nil) .nil ?_
 refine .nil (by kernel_rfl) ?_
 refine aw_rs ?_
 refine .v (f_load (n := 0) (o := 2) (off := 0) (p := []) (c := .d (eGLine a0)) (z := .d (eGLine a0)) (by rfl) rfl ty26 (by rfl)) rfl (.c rfl .nil) (.cons rfl .nil) ?_
 obtain ⟨y11, hy12, h⟩ := bind_some h
 refine .w (f_callG (xs := [.d (eGLine a0)]) (r := .st [.d (eA22 y11.1), .slc 1066 0 ((y11.2).length) 99]) (hw := [(1065, .av (.st [.d (eA22 y11.1), .slc 1066 0 ((y11.2).length) 99])), (1066, .av (.d (.arr 99 ((y11.2).length) ((y11.2).map eGTx))))]) (fun i => bif Nat.beq i 1063 then 1066 else (bif Nat.beq i 2 then 1065 else i)) [] hgl (by rfl) (cal_f en47) rfl (by rfl) (by rfl) (by rfl) (by rfl) (.cons (.same _) .nil) rfl rfl rfl rfl (F47_queue_Twin_ok hy12)) rfl (.c rfl .nil) .nil (.cons rfl (.cons rfl .nil)) ?_
 refine .s (f_store (n := 0) (o := 4) (off := 0) (p := []) (c := .st [.d (eA22 (List.replicate 32 (0 : Int))), .d (.val (.slice none 0 0))]) (old := .st [.d (eA22 (List.replicate 32 (0 : Int))), .d (.val (.slice none 0 0))]) (z := .st [.d (eA22 y11.1), .slc 1066 0 ((y11.2).length) 99]) (c' := .st [.d (eA22 y11.1), .slc 1066 0 ((y11.2).length) 99]) rfl rfl (by rfl) ty26 (by rfl)) rfl (.c rfl (.c rfl .nil)) (.cons rfl .nil) ?_
 refine .nil (aq_then ?_)
 refine aw_seq ?_
 refine aw_seq ?_
 obtain ⟨o17, ho32, h⟩ := bind_some h
 refine aw_join (.normal) ⟨[(2, .ptr 2 0 []), (3, .ptr 3 0 []), (4, .ptr 4 0 []), (7, .d (.val (.int .i64 y9))), (42, .d (.val (.bool o17)))], [(2, .av (.d (eGLine a0))), (3, .av (.d (eGTx a1))), (4, .av (.st [.d (eA22 y11.1), .slc 1066 0 ((y11.2).length) 99])), (1066, .av (.d (.arr 99 ((y11.2).length) ((y11.2).map eGTx))))], []⟩ ?_ ?_
 · replace h := ho32
   refine aw_rd ?_
   refine .v (f_move (by rfl)) rfl (.c rfl .nil) .nil ?_
   refine .v (f_fieldAddr (n := 32) (by rfl) fl26_1 (by decide)) rfl (.c rfl .nil) .nil ?_
   refine .v (f_load (n := 0) (o := 2) (off := (0 + 32)) (p := [1]) (c := .d (eGLine a0)) (z := .d (eL24 a0.Txs)) (by rfl) rfl ty24 (by rfl)) rfl (.c rfl .nil) (.cons rfl .nil) ?_
   refine .v (f_lenD (n := (a0.Txs).length) (by rfl) sl24 rfl (by simp)) rfl (.c rfl .nil) .nil ?_
   refine .v (f_binI (by rfl) rfl (by rfl)) rfl (.c rfl (.c rfl .nil)) .nil ?_
   refine .v (f_move (by rfl)) rfl (.c rfl .nil) .nil ?_
   rcases Bool.eq_false_or_eq_true (decide (y9 < ((a0.Txs).length : Int))) with hc13 | hc13
   · replace h := ite_t hc13 h
     refine .gv (f_fieldAddr (n := 32) (by rfl) fl26_1 (by decide)) rfl rfl rfl hc13 (.c rfl .nil) .nil ?_
     refine .gv (f_load (n := 0) (o := 2) (off := (0 + 32)) (p := [1]) (c := .d (eGLine a0)) (z := .d (eL24 a0.Txs)) (by rfl) rfl ty24 (by rfl)) rfl rfl rfl hc13 (.c rfl .nil) (.cons rfl .nil) ?_
     refine .gv (f_move (by rfl)) rfl rfl rfl hc13 (.c rfl .nil) .nil ?_
     obtain ⟨x14, hx15, h⟩ := bind_some h
     obtain ⟨hx16, hx15⟩ := rd_some hx15
     refine .gv (f_indexS (by rfl) sl24 hx16 (rd_map _ hx15)) rfl rfl rfl hc13 (.c rfl (.c rfl .nil)) .nil ?_
     refine .gv (f_fieldAddrR (by rfl) fl36_2 (by decide) rfl) rfl rfl rfl hc13 (.c rfl .nil) .nil ?_
     refine .gv (f_loadR (z := (.val (.int .u64 x14.Nonce))) (by rfl) ty27) rfl rfl rfl hc13 (.c rfl .nil) .nil ?_
     refine .gv (f_fieldAddr (n := 64) (by rfl) fl36_2 (by decide)) rfl rfl rfl hc13 (.c rfl .nil) .nil ?_
     refine .gv (f_load (n := 0) (o := 3) (off := (0 + 64)) (p := [2]) (c := .d (eGTx a1)) (z := .d (.val (.int .u64 a1.Nonce))) (by rfl) rfl ty27 (by rfl)) rfl rfl rfl hc13 (.c rfl .nil) (.cons rfl .nil) ?_
     refine .gv (f_binI (by rfl) rfl (by rfl)) rfl rfl rfl hc13 (.c rfl (.c rfl .nil)) .nil ?_
     refine .v (f_pick_true (by rfl) hc13) rfl (.c rfl (.c rfl .nil)) .nil ?_
     refine .nil (by kernel_rfl) ?_
     obtain rfl := Option.some.inj h
     refine aq_weak (s' := ⟨[(2, .ptr 2 0 []), (3, .ptr 3 0 []), (4, .ptr 4 0 []), (7, .d (.val (.int .i64 y9))), (42, .d (.val (.bool (x14.Nonce == a1.Nonce))))], [(2, .av (.d (eGLine a0))), (3, .av (.d (eGTx a1))), (4, .av (.st [.d (eA22 y11.1), .slc 1066 0 ((y11.2).length) 99])), (1066, .av (.d (.arr 99 ((y11.2).length) ((y11.2).map eGTx))))], []⟩) id hb0 (.keep rfl (.keep rfl (.keep rfl (.keep rfl (.keep rfl .nil))))) (.keep rfl (.keep rfl (.keep rfl (.keep rfl .nil)))) rfl (by rfl) ?_
     exact jq
   replace h := ite_f hc13 h
   refine .off rfl rfl rfl hc13 rfl (by rfl) ?_
   refine .off rfl rfl rfl hc13 rfl (by rfl) ?_
   refine .off rfl rfl rfl hc13 rfl (by rfl) ?_
   refine .off rfl rfl rfl hc13 rfl (by rfl) ?_
   refine .off rfl rfl rfl hc13 rfl (by rfl) ?_
   refine .off rfl rfl rfl hc13 rfl (by rfl) ?_
   refine .off rfl rfl rfl hc13 rfl (by rfl) ?_
   refine .off rfl rfl rfl hc13 rfl (by rfl) ?_
   refine .off rfl rfl rfl hc13 rfl (by rfl) ?_
   refine .v (f_pick_false (by rfl) hc13) rfl (.c rfl (.c rfl .nil)) .nil ?_
   refine .nil (by kernel_rfl) ?_
   obtain rfl := Option.some.inj h
   refine aq_weak (s' := ⟨[(2, .ptr 2 0 []), (3, .ptr 3 0 []), (4, .ptr 4 0 []), (7, .d (.val (.int .i64 y9))), (42, .d (.val (.bool false)))], [(2, .av (.d (eGLine a0))), (3, .av (.d (eGTx a1))), (4, .av (.st [.d (eA22 y11.1), .slc 1066 0 ((y11.2).length) 99])), (1066, .av (.d (.arr 99 ((y11.2).length) ((y11.2).map eGTx))))], []⟩) id hb0 (.keep rfl (.keep rfl (.keep rfl (.keep rfl (.keep rfl .nil))))) (.keep rfl (.keep rfl (.keep rfl (.keep rfl .nil)))) rfl (by rfl) ?_
   exact jq
 refine aq_then ?_
 refine aw_cond rfl (fun hc18 => ?_) (fun hc18 => ?_)
 · replace h := ite_t hc18 h
   refine aw_seq ?_
   refine aw_rds ?_
   refine .v (f_fieldAddr (n := 66) (by rfl) fl36_4 (by decide)) rfl (.c rfl .nil) .nil ?_
   refine .v (f_load (n := 0) (o := 3) (off := (0 + 66)) (p := [4]) (c := .d (eGTx a1)) (z := .d (.val (.int .u64 a1.Fee))) (by rfl) rfl ty27 (by rfl)) rfl (.c rfl .nil) (.cons rfl .nil) ?_
   refine .v (f_fieldAddr (n := 32) (by rfl) fl26_1 (by decide)) rfl (.c rfl .nil) .nil ?_
   refine .v (f_load (n := 0) (o := 2) (off := (0 + 32)) (p := [1]) (c := .d (eGLine a0)) (z := .d (eL24 a0.Txs)) (by rfl) rfl ty24 (by rfl)) rfl (.c rfl .nil) (.cons rfl .nil) ?_
   refine .v (f_move (by rfl)) rfl (.c rfl .nil) .nil ?_
   obtain ⟨x19, hx20, h⟩ := bind_some h
   obtain ⟨hx21, hx20⟩ := rd_some hx20
   refine .v (f_indexS (by rfl) sl24 hx21 (rd_map _ hx20)) rfl (.c rfl (.c rfl .nil)) .nil ?_
   refine .v (f_fieldAddrR (by rfl) fl36_4 (by decide) rfl) rfl (.c rfl .nil) .nil ?_
   refine .v (f_loadR (z := (.val (.int .u64 x19.Fee))) (by rfl) ty27) rfl (.c rfl .nil) .nil ?_
   refine .v (f_binI (by rfl) rfl (by rfl)) rfl (.c rfl (.c rfl .nil)) .nil ?_
   refine .nil (by kernel_rfl) ?_
   refine aw_cond rfl (fun hc22 => ?_) (fun hc22 => ?_)
   · replace h := ite_t hc22 h
     refine aw_rs ?_
     refine .v (f_build (xs := []) (z' := .st [.d (eA22 (List.replicate 32 (0 : Int))), .d (.val (.slice none 0 0))]) (by rfl) zrv26 ag26 rfl (by rfl) trivial (by rfl) (by rfl)) rfl .nil .nil ?_
     refine .s (f_store (n := 0) (o := 4) (off := 0) (p := []) (c := .st [.d (eA22 y11.1), .slc 1066 0 ((y11.2).length) 99]) (old := .st [.d (eA22 y11.1), .slc 1066 0 ((y11.2).length) 99]) (z := .st [.d (eA22 (List.replicate 32 (0 : Int))), .d (.val (.slice none 0 0))]) (c' := .st [.d (eA22 (List.replicate 32 (0 : Int))), .d (.val (.slice none 0 0))]) rfl rfl (by rfl) ty26 (by rfl)) rfl (.c rfl (.c rfl .nil)) (.cons rfl .nil) ?_
     refine .as rfl (by rfl) ?_
     refine .as rfl (by rfl) ?_
     refine .nil (aq_then ?_)
     refine aw_ret ?_
     refine aq_then_ret ?_
     refine aq_then_ret ?_
     obtain rfl := Option.some.inj h
     refine aq_freezeH [] [(4, .ptr 4 0 []), (5, .d (eL24 ([]))), (6, .d (.val (.int .i64 (190 : Int))))] [(4, .av (.d (eGLine (⟨(List.replicate 32 (0 : Int)), []⟩ : GLine))))] .nil (.keep rfl (.cons rfl .nil (.keep rfl .nil))) (.cons rfl (by rfl) (.st (.cons (.same _) (.cons .nil .nil))) .nil) ?_
     exact aq_finp hb0 rfl (.cell rfl rfl ty26 (by rfl) (.tmp rfl (by rfl) (.tmp rfl (by rfl) .nil))) (by rfl) rfl ⟨rfl, rfl⟩
   replace h := ite_f hc22 h
   refine aw_skip ?_
   refine aq_then ?_
   refine aw_rs ?_
   refine .v (f_fieldAddr (n := 32) (by rfl) fl26_1 (by decide)) rfl (.c rfl .nil) .nil ?_
   refine .v (f_load (n := 0) (o := 4) (off := (0 + 32)) (p := [1]) (c := .st [.d (eA22 y11.1), .slc 1066 0 ((y11.2).length) 99]) (z := .slc 1066 0 ((y11.2).length) 99) (by rfl) rfl ty24 (by rfl)) rfl (.c rfl .nil) (.cons rfl .nil) ?_
   refine .mv rfl (by rfl) ?_
   refine .v (f_load (n := 0) (o := 3) (off := 0) (p := []) (c := .d (eGTx a1)) (z := .d (eGTx a1)) (by rfl) rfl ty36 (by rfl)) rfl (.c rfl .nil) (.cons rfl .nil) ?_
   obtain ⟨x23, hx24, h⟩ := bind_some h
   obtain ⟨hx25, hx24⟩ := rd_some hx24
   refine .v (f_indexSW (by rfl) sl24 hx25 (rd_map _ hx24)) rfl (.c rfl (.c rfl .nil)) (.cons rfl .nil) ?_
   refine .s (f_store (n := 0) (o := 1066) (off := ((0 + (y9).toNat) * 99)) (p := [0 + (y9).toNat]) (c := .d (.arr 99 ((y11.2).length) ((y11.2).map eGTx))) (old := .d (eGTx x23)) (z := .d (eGTx a1)) (c' := .d (.arr 99 ((y11.2).length) (((y11.2.set (0 + (y9).toNat) a1)).map eGTx))) (at_map _ (by simpa using hx24) rfl) (put_map _ (by simpa using hx24)) (by rfl) ty36 (by rfl)) rfl (.c rfl (.c rfl .nil)) (.cons rfl .nil) ?_
   refine .nil (aq_then ?_)
   refine aw_rds ?_
   refine .v (f_load (n := 0) (o := 4) (off := 0) (p := []) (c := .st [.d (eA22 y11.1), .slc 1066 0 ((y11.2).length) 99]) (z := .st [.d (eA22 y11.1), .slc 1066 0 ((y11.2).length) 99]) (by rfl) rfl ty26 (by rfl)) rfl (.c rfl .nil) (.cons rfl .nil) ?_
   refine .v (f_fieldAddr (n := 32) (by rfl) fl26_1 (by decide)) rfl (.c rfl .nil) .nil ?_
   refine .v (f_load (n := 0) (o := 2) (off := (0 + 32)) (p := [1]) (c := .d (eGLine a0)) (z := .d (eL24 a0.Txs)) (by rfl) rfl ty24 (by rfl)) rfl (.c rfl .nil) (.cons rfl .nil) ?_
   refine .v (f_move (by rfl)) rfl (.c rfl .nil) .nil ?_
   obtain ⟨x26, hx27, h⟩ := bind_some h
   obtain ⟨hx28, hx27⟩ := rd_some hx27
   refine .v (f_indexS (by rfl) sl24 hx28 (rd_map _ hx27)) rfl (.c rfl (.c rfl .nil)) .nil ?_
   refine .v (f_loadR (z := (eGTx x26)) (by rfl) ty36) rfl (.c rfl .nil) .nil ?_
   refine .n (f_buildS (xs := [(0, .d (eGTx x26))]) (z := (.st [(eA22 (List.replicate 32 (0 : Int))), (eA22 (List.replicate 32 (0 : Int))), (.val (.int .u64 (0 : Int))), (.val (.int .u64 (0 : Int))), (.val (.int .u64 (0 : Int))), (eA22 (List.replicate 32 (0 : Int)))])) (zs := (([x26] : List GTx)).map eGTx) 1067 (by rfl) el24 zel24 (by rfl) (by decide) (by decide) rfl (by rfl) ⟨_, _, _, rfl, pl24_0, rfl, rfl, trivial⟩ (by rfl)) rfl (.c rfl .nil) rfl ?_
   refine .s (f_store (n := 0) (o := 4) (off := 0) (p := []) (c := .st [.d (eA22 y11.1), .slc 1066 0 ((y11.2).length) 99]) (old := .st [.d (eA22 y11.1), .slc 1066 0 ((y11.2).length) 99]) (z := .st [.d (eA22 y11.1), .slc 1066 0 ((y11.2).length) 99]) (c' := .st [.d (eA22 y11.1), .slc 1066 0 ((y11.2).length) 99]) rfl rfl (by rfl) ty26 (by rfl)) rfl (.c rfl (.c rfl .nil)) (.cons rfl .nil) ?_
   refine .v (f_assign (by rfl)) rfl (.c rfl .nil) .nil ?_
   refine .v (f_assign (by rfl)) rfl (.c rfl .nil) .nil ?_
   refine .nil (by kernel_rfl) ?_
   refine aw_ret ?_
   refine aq_then_ret ?_
   obtain rfl := Option.some.inj h
   refine aq_freezeH [(1067, (.arr 99 ((([x26] : List GTx)).length) ((([x26] : List GTx)).map eGTx))), (1066, (.arr 99 ((y11.2).length) (((y11.2.set (0 + (y9).toNat) a1)).map eGTx)))] [(4, .ptr 4 0 []), (5, .d (eL24 ([x26] : List GTx))), (6, .d (.val (.int .i64 (0 : Int))))] [(4, .av (.d (eGLine (⟨y11.1, (y11.2.set (0 + (y9).toNat) a1)⟩ : GLine))))] (.cons rfl (.cons rfl .nil)) (.keep rfl (.cons rfl (.whole (.head _)) (.keep rfl .nil))) (.cons rfl (by rfl) (.st (.cons (.same _) (.cons (.whole (.tail _ (.head _))) .nil))) .nil) ?_
   exact aq_finp hb0 rfl (.cell rfl rfl ty26 (by rfl) (.tmp rfl (by rfl) (.tmp rfl (by rfl) .nil))) (by rfl) rfl ⟨rfl, rfl⟩
 replace h := ite_f hc18 h
 refine aw_skip ?_
 refine aq_then ?_
 refine aw_seq ?_
 refine aw_rs ?_
 refine .v (f_fieldAddr (n := 32) (by rfl) fl26_1 (by decide)) rfl (.c rfl .nil) .nil ?_
 refine .v (f_load (n := 0) (o := 2) (off := (0 + 32)) (p := [1]) (c := .d (eGLine a0)) (z := .d (eL24 a0.Txs)) (by rfl) rfl ty24 (by rfl)) rfl (.c rfl .nil) (.cons rfl .nil) ?_
 refine .v (f_lenD (n := (a0.Txs).length) (by rfl) sl24 rfl (by simp)) rfl (.c rfl .nil) .nil ?_
 refine .v (f_binI (by rfl) rfl (by rfl)) rfl (.c rfl (.c rfl .nil)) .nil ?_
 refine .nil (aq_then ?_)
 refine aw_cond rfl (fun hc29 => ?_) (fun hc29 => ?_)
 · replace h := ite_t hc29 h
   refine aw_rs ?_
   refine .v (f_build (xs := []) (z' := .st [.d (eA22 (List.replicate 32 (0 : Int))), .d (.val (.slice none 0 0))]) (by rfl) zrv26 ag26 rfl (by rfl) trivial (by rfl) (by rfl)) rfl .nil .nil ?_
   refine .s (f_store (n := 0) (o := 4) (off := 0) (p := []) (c := .st [.d (eA22 y11.1), .slc 1066 0 ((y11.2).length) 99]) (old := .st [.d (eA22 y11.1), .slc 1066 0 ((y11.2).length) 99]) (z := .st [.d (eA22 (List.replicate 32 (0 : Int))), .d (.val (.slice none 0 0))]) (c' := .st [.d (eA22 (List.replicate 32 (0 : Int))), .d (.val (.slice none 0 0))]) rfl rfl (by rfl) ty26 (by rfl)) rfl (.c rfl (.c rfl .nil)) (.cons rfl .nil) ?_
   refine .as rfl (by rfl) ?_
   refine .as rfl (by rfl) ?_
   refine .nil (aq_then ?_)
   refine aw_ret ?_
   refine aq_then_ret ?_
   obtain rfl := Option.some.inj h
   refine aq_freezeH [] [(4, .ptr 4 0 []), (5, .d (eL24 ([]))), (6, .d (.val (.int .i64 (9 : Int))))] [(4, .av (.d (eGLine (⟨(List.replicate 32 (0 : Int)), []⟩ : GLine))))] .nil (.keep rfl (.cons rfl .nil (.keep rfl .nil))) (.cons rfl (by rfl) (.st (.cons (.same _) (.cons .nil .nil))) .nil) ?_
   exact aq_finp hb0 rfl (.cell rfl rfl ty26 (by rfl) (.tmp rfl (by rfl) (.tmp rfl (by rfl) .nil))) (by rfl) rfl ⟨rfl, rfl⟩
 replace h := ite_f hc29 h
 refine aw_skip ?_
 refine aq_then ?_
 refine aw_rs ?_
 refine .v (f_fieldAddr (n := 32) (by rfl) fl26_1 (by decide)) rfl (.c rfl .nil) .nil ?_
 refine .v (f_load (n := 0) (o := 4) (off := (0 + 32)) (p := [1]) (c := .st [.d (eA22 y11.1), .slc 1066 0 ((y11.2).length) 99]) (z := .slc 1066 0 ((y11.2).length) 99) (by rfl) rfl ty24 (by rfl)) rfl (.c rfl .nil) (.cons rfl .nil) ?_
 refine .mv rfl (by rfl) ?_
 refine .v (f_load (n := 0) (o := 3) (off := 0) (p := []) (c := .d (eGTx a1)) (z := .d (eGTx a1)) (by rfl) rfl ty36 (by rfl)) rfl (.c rfl .nil) (.cons rfl .nil) ?_
 refine .n (f_buildS (xs := [(0, .d (eGTx a1))]) (z := (.st [(eA22 (List.replicate 32 (0 : Int))), (eA22 (List.replicate 32 (0 : Int))), (.val (.int .u64 (0 : Int))), (.val (.int .u64 (0 : Int))), (.val (.int .u64 (0 : Int))), (eA22 (List.replicate 32 (0 : Int)))])) (zs := (([a1] : List GTx)).map eGTx) 1068 (by rfl) el24 zel24 (by rfl) (by decide) (by decide) rfl (by rfl) ⟨_, _, _, rfl, pl24_0, rfl, rfl, trivial⟩ (by rfl)) rfl (.c rfl .nil) rfl ?_
 obtain ⟨y30, hy31, h⟩ := bind_some h
 refine .w (f_callG (xs := [.slc 1066 0 ((y11.2).length) 99, .d (.val (.int .i64 y9)), .slc 1068 0 ((([a1] : List GTx)).length) 99]) (r := .slc 1069 0 ((y30).length) 99) (hw := [(1069, .av (.d (.arr 99 ((y30).length) ((y30).map eGTx)))), (1066, .dead), (1068, .av (.d (.arr 99 ((([a1] : List GTx)).length) ((([a1] : List GTx)).map eGTx))))]) (fun i => bif Nat.beq i 2 then 1069 else (bif Nat.beq i 1 then 1068 else (bif Nat.beq i 0 then 1066 else i))) [] hgl (by rfl) (cal_f en83) rfl (by rfl) (by rfl) (by rfl) (by rfl) (.cons (.same _) (.cons (.same _) (.cons (.same _) .nil))) rfl rfl rfl rfl (F83_Insert_ok hy31)) rfl (.c rfl (.c rfl (.c rfl .nil))) (.cons rfl (.cons rfl .nil)) (.cons rfl .nil) ?_
 refine .v (f_fieldAddr (n := 32) (by rfl) fl26_1 (by decide)) rfl (.c rfl .nil) .nil ?_
 refine .s (f_store (n := 0) (o := 4) (off := (0 + 32)) (p := [1]) (c := .st [.d (eA22 y11.1), .slc 1066 0 ((y11.2).length) 99]) (old := .slc 1066 0 ((y11.2).length) 99) (z := .slc 1069 0 ((y30).length) 99) (c' := .st [.d (eA22 y11.1), .slc 1069 0 ((y30).length) 99]) rfl rfl (by rfl) ty24 (by rfl)) rfl (.c rfl (.c rfl .nil)) (.cons rfl .nil) ?_
 refine .nil (aq_then ?_)
 refine aw_rs ?_
 refine .v (f_load (n := 0) (o := 4) (off := 0) (p := []) (c := .st [.d (eA22 y11.1), .slc 1069 0 ((y30).length) 99]) (z := .st [.d (eA22 y11.1), .slc 1069 0 ((y30).length) 99]) (by rfl) rfl ty26 (by rfl)) rfl (.c rfl .nil) (.cons rfl .nil) ?_
 refine .s (f_store (n := 0) (o := 4) (off := 0) (p := []) (c := .st [.d (eA22 y11.1), .slc 1069 0 ((y30).length) 99]) (old := .st [.d (eA22 y11.1), .slc 1069 0 ((y30).length) 99]) (z := .st [.d (eA22 y11.1), .slc 1069 0 ((y30).length) 99]) (c' := .st [.d (eA22 y11.1), .slc 1069 0 ((y30).length) 99]) rfl rfl (by rfl) ty26 (by rfl)) rfl (.c rfl (.c rfl .nil)) (.cons rfl .nil) ?_
 refine .as rfl (by rfl) ?_
 refine .as rfl (by rfl) ?_
 refine .nil (aq_then ?_)
 refine aw_ret ?_
 obtain rfl := Option.some.inj h
 refine aq_freezeH [(1069, (.arr 99 ((y30).length) ((y30).map eGTx)))] [(4, .ptr 4 0 []), (5, .d (eL24 ([]))), (6, .d (.val (.int .i64 (0 : Int))))] [(4, .av (.d (eGLine (⟨y11.1, y30⟩ : GLine))))] (.cons rfl .nil) (.keep rfl (.cons rfl .nil (.keep rfl .nil))) (.cons rfl (by rfl) (.st (.cons (.same _) (.cons (.whole (.head _)) .nil))) .nil) ?_
 exact aq_finp hb0 rfl (.cell rfl rfl ty26 (by rfl) (.tmp rfl (by rfl) (.tmp rfl (by rfl) .nil))) (by rfl) rfl ⟨rfl, rfl⟩

/- 17: beadroll/queue.Past -/
def F17_queue_Past (n : Nat) (a0 : GLine) (a1 : Int) : Option (GLine × (List GTx) × Int) :=
  ((F18_queue_Check n a0).bind fun (y1 : Int) => (if (y1 != (0 : Int)) = true then some ((⟨(List.replicate 32 (0 : Int)), []⟩ : GLine), [], y1) else ((F74_queue_nonces n a0).bind fun (y4 : (List GTx)) => ((F75_api_Tx_ahead_844 n y4 a1).bind fun (y6 : Int) => (if 0 ≤ y6 ∧ y6 ≤ ((a0.Txs).length : Int) ∧ ((a0.Txs).length : Int) ≤ ((a0.Txs).length : Int) then ((F76_Clone n ((a0.Txs).drop (y6).toNat)).bind fun (y9 : List GTx) => (if 0 ≤ (0 : Int) ∧ (0 : Int) ≤ y6 ∧ y6 ≤ ((a0.Txs).length : Int) then ((F76_Clone n ((a0.Txs).take (y6).toNat)).bind fun (y12 : List GTx) => some ((⟨a0.From, y9⟩ : GLine), y12, (0 : Int))) else none)) else none)))))
theorem F17_queue_Past_ok {n : Nat} {a0 : GLine} {a1 : Int} {r : GLine × (List GTx) × Int} (h : F17_queue_Past n a0 a1 = some r) :
    ACall Tryd.prog GS 17 [.d (eGLine a0), .d (.val (.int .u64 a1))] [] (fun r' hp' => r' = .res [.d (eGLine r.1), .d (eL24 r.2.1), .d (.val (.int .i64 r.2.2))] ∧ hp' = []) := by
 refine acall_of_body mixed Tryd.func17 rfl (by rfl) ?_
 intro C hro hgl hb0
 unfold F17_queue_Past at h
 refine aw_rs ?_
 refine .n (f_box 2 (by rfl) (by rfl)) rfl (.c rfl .nil) rfl ?_
 refine .n (f_alloc 4 (by rfl) zrv26) rfl .nil rfl ?_
 refine .as rfl (by rfl) ?_
 refine .as rfl (by rfl) ?_
 refine .nil (aq_then ?_)
 refine aw_seq ?_
 refine aw_rs ?_
 refine .v (f_load (n := 0) (o := 2) (off := 0) (p := []) (c := .d (eGLine a0)) (z := .d (eGLine a0)) (by rfl) rfl ty26 (by rfl)) rfl (.c rfl .nil) (.cons rfl .nil) ?_
 obtain ⟨y1, hy2, h⟩ := bind_some h
 refine .v (f_callP hgl (by rfl) en18 rfl (by rfl) (by rfl) (by rfl) (F18_queue_Check_ok hy2)) rfl (.c rfl .nil) .nil ?_
 refine .as rfl (by rfl) ?_
 refine .nil (aq_then ?_)
 refine aw_rs ?_
 refine .mv rfl (by rfl) ?_
 refine .v (f_binI (by rfl) rfl (by rfl)) rfl (.c rfl (.c rfl .nil)) .nil ?_
 refine .nil (aq_then ?_)
 refine aw_cond rfl (fun hc3 => ?_) (fun hc3 => ?_)
 · replace h := ite_t hc3 h
   refine aw_rs ?_
   refine .v (f_load (n := 0) (o := 4) (off := 0) (p := []) (c := .st [.d (eA22 (List.replicate 32 (0 : Int))), .d (.val (.slice none 0 0))]) (z := .st [.d (eA22 (List.replicate 32 (0 : Int))), .d (.val (.slice none 0 0))]) (by rfl) rfl ty26 (by rfl)) rfl (.c rfl .nil) (.cons rfl .nil) ?_
   refine .mv rfl (by rfl) ?_
   refine .s (f_store (n := 0) (o := 4) (off := 0) (p := []) (c := .st [.d (eA22 (List.replicate 32 (0 : Int))), .d (.val (.slice none 0 0))]) (old := .st [.d (eA22 (List.replicate 32 (0 : Int))), .d (.val (.slice none 0 0))]) (z := .st [.d (eA22 (List.replicate 32 (0 : Int))), .d (.val (.slice none 0 0))]) (c' := .st [.d (eA22 (List.replicate 32 (0 : Int))), .d (.val (.slice none 0 0))]) rfl rfl (by rfl) ty26 (by rfl)) rfl (.c rfl (.c rfl .nil)) (.cons rfl .nil) ?_
   refine .as rfl (by rfl) ?_
   refine .as rfl (by rfl) ?_
   refine .nil (aq_then ?_)
   refine aw_ret ?_
   refine aq_then_ret ?_
   obtain rfl := Option.some.inj h
   refine aq_freezeH [] [(4, .ptr 4 0 []), (5, .d (eL24 ([]))), (6, .d (.val (.int .i64 y1)))] [(4, .av (.d (eGLine (⟨(List.replicate 32 (0 : Int)), []⟩ : GLine))))] .nil (.keep rfl (.cons rfl .nil (.keep rfl .nil))) (.cons rfl (by rfl) (.st (.cons (.same _) (.cons .nil .nil))) .nil) ?_
   exact aq_finp hb0 rfl (.cell rfl rfl ty26 (by rfl) (.tmp rfl (by rfl) (.tmp rfl (by rfl) .nil))) (by rfl) rfl ⟨rfl, rfl⟩
 replace h := ite_f hc3 h
 refine aw_skip ?_
 refine aq_then ?_
 refine aw_rs ?_
 refine .v (f_load (n := 0) (o := 2) (off := 0) (p := []) (c := .d (eGLine a0)) (z := .d (eGLine a0)) (by rfl) rfl ty26 (by rfl)) rfl (.c rfl .nil) (.cons rfl .nil) ?_
 obtain ⟨y4, hy5, h⟩ := bind_some h
 refine .w (f_callG (xs := [.d (eGLine a0)]) (r := .st [.d (eL24 y4), .fn (.func 111) [] []]) (hw := [(1070, .av (.st [.d (eL24 y4), .fn (.func 111) [] []]))]) (fun i => bif Nat.beq i 2 then 1070 else i) [] hgl (by rfl) (cal_f en74) rfl (by rfl) (by rfl) (by rfl) (by rfl) (.cons (.same _) .nil) rfl rfl rfl rfl (F74_queue_nonces_ok hy5)) rfl (.c rfl .nil) .nil (.cons rfl .nil) ?_
 refine .mv rfl (by rfl) ?_
 obtain ⟨y6, hy7, h⟩ := bind_some h
 refine .w (f_callG0 (xs := [.st [.d (eL24 y4), .fn (.func 111) [] []], .d (.val (.int .u64 a1))]) (r := .d (.val (.int .i64 y6))) (fun i => i) [] hgl (by rfl) (cal_f en75) rfl (by rfl) (by rfl) (by rfl) (by rfl) (.cons (.same _) (.cons (.same _) .nil)) rfl rfl (F75_api_Tx_ahead_844_ok hy7)) rfl (.c rfl (.c rfl .nil)) .nil .nil ?_
 refine .as rfl (by rfl) ?_
 refine .nil (aq_then ?_)
 refine aw_rds ?_
 refine .v (f_fieldAddr (n := 0) (by rfl) fl26_0 (by decide)) rfl (.c rfl .nil) .nil ?_
 refine .v (f_load (n := 0) (o := 2) (off := (0 + 0)) (p := [0]) (c := .d (eGLine a0)) (z := .d (eA22 a0.From)) (by rfl) rfl ty23 (by rfl)) rfl (.c rfl .nil) (.cons rfl .nil) ?_
 refine .v (f_fieldAddr (n := 32) (by rfl) fl26_1 (by decide)) rfl (.c rfl .nil) .nil ?_
 refine .v (f_load (n := 0) (o := 2) (off := (0 + 32)) (p := [1]) (c := .d (eGLine a0)) (z := .d (eL24 a0.Txs)) (by rfl) rfl ty24 (by rfl)) rfl (.c rfl .nil) (.cons rfl .nil) ?_
 refine .v (f_move (by rfl)) rfl (.c rfl .nil) .nil ?_
 obtain ⟨hb8, h⟩ := ifp h
 refine .v (f_sliceD (k1 := .i64) (k2 := .i64) (i := y6) (j := ((a0.Txs).length : Int)) (xs := (a0.Txs).map eGTx) (zs := ((a0.Txs).drop (y6).toNat).map eGTx) (by rfl) sl24 (by intro hx; first | rfl | cases hx) (by intro hx; first | (simp; done) | cases hx) hb8.1 hb8.2.1 (by rw [List.length_map]; exact hb8.2.2) (by simp [List.map_take, List.map_drop, List.take_of_length_le])) rfl (.c rfl (.c rfl .nil)) .nil ?_
 obtain ⟨y9, hy10, h⟩ := bind_some h
 refine .w (f_callG (xs := [.d (eL24 ((a0.Txs).drop (y6).toNat))]) (r := .slc 1071 0 ((y9).length) 99) (hw := [(1071, .av (.d (.arr 99 ((y9).length) ((y9).map eGTx))))]) (fun i => bif Nat.beq i 0 then 1071 else i) [] hgl (by rfl) (cal_f en76) rfl (by rfl) (by rfl) (by rfl) (by rfl) (.cons (.same _) .nil) rfl rfl rfl rfl (F76_Clone_ok hy10)) rfl (.c rfl .nil) .nil (.cons rfl .nil) ?_
 refine .v (f_build (xs := [(0, .d (eA22 a0.From)), (1, .slc 1071 0 ((y9).length) 99)]) (z' := .st [.d (eA22 a0.From), .slc 1071 0 ((y9).length) 99]) (by rfl) zrv26 ag26 rfl (by rfl) ⟨_, _, _, rfl, pl26_0, rfl, rfl, ⟨_, _, _, rfl, pl26_1, rfl, rfl, trivial⟩⟩ (by rfl) (by rfl)) rfl (.c rfl (.c rfl .nil)) .nil ?_
 refine .v (f_fieldAddr (n := 32) (by rfl) fl26_1 (by decide)) rfl (.c rfl .nil) .nil ?_
 refine .v (f_load (n := 0) (o := 2) (off := (0 + 32)) (p := [1]) (c := .d (eGLine a0)) (z := .d (eL24 a0.Txs)) (by rfl) rfl ty24 (by rfl)) rfl (.c rfl .nil) (.cons rfl .nil) ?_
 refine .v (f_move (by rfl)) rfl (.c rfl .nil) .nil ?_
 obtain ⟨hb11, h⟩ := ifp h
 refine .v (f_sliceD (k1 := .i64) (k2 := .i64) (i := (0 : Int)) (j := y6) (xs := (a0.Txs).map eGTx) (zs := ((a0.Txs).take (y6).toNat).map eGTx) (by rfl) sl24 (by intro hx; first | rfl | cases hx) (by intro hx; first | (simp; done) | cases hx) hb11.1 hb11.2.1 (by rw [List.length_map]; exact hb11.2.2) (by simp [List.map_take, List.map_drop, List.take_of_length_le])) rfl (.c rfl (.c rfl .nil)) .nil ?_
 obtain ⟨y12, hy13, h⟩ := bind_some h
 refine .w (f_callG (xs := [.d (eL24 ((a0.Txs).take (y6).toNat))]) (r := .slc 1072 0 ((y12).length) 99) (hw := [(1072, .av (.d (.arr 99 ((y12).length) ((y12).map eGTx))))]) (fun i => bif Nat.beq i 0 then 1072 else i) [] hgl (by rfl) (cal_f en76) rfl (by rfl) (by rfl) (by rfl) (by rfl) (.cons (.same _) .nil) rfl rfl rfl rfl (F76_Clone_ok hy13)) rfl (.c rfl .nil) .nil (.cons rfl .nil) ?_
 refine .s (f_store (n := 0) (o := 4) (off := 0) (p := []) (c := .st [.d (eA22 (List.replicate 32 (0 : Int))), .d (.val (.slice none 0 0))]) (old := .st [.d (eA22 (List.replicate 32 (0 : Int))), .d (.val (.slice none 0 0))]) (z := .st [.d (eA22 a0.From), .slc 1071 0 ((y9).length) 99]) (c' := .st [.d (eA22 a0.From), .slc 1071 0 ((y9).length) 99]) rfl rfl (by rfl) ty26 (by rfl)) rfl (.c rfl (.c rfl .nil)) (.cons rfl .nil) ?_
 refine .v (f_assign (by rfl)) rfl (.c rfl .nil) .nil ?_
 refine .v (f_assign (by rfl)) rfl (.c rfl .nil) .nil ?_
 refine .nil (by kernel_rfl) ?_
 refine aw_ret ?_
 obtain rfl := Option.some.inj h
 refine aq_freezeH [(1072, (.arr 99 ((y12).length) ((y12).map eGTx))), (1071, (.arr 99 ((y9).length) ((y9).map eGTx)))] [(4, .ptr 4 0 []), (5, .d (eL24 y12)), (6, .d (.val (.int .i64 (0 : Int))))] [(4, .av (.d (eGLine (⟨a0.From, y9⟩ : GLine))))] (.cons rfl (.cons rfl .nil)) (.keep rfl (.cons rfl (.whole (.head _)) (.keep rfl .nil))) (.cons rfl (by rfl) (.st (.cons (.same _) (.cons (.whole (.tail _ (.head _))) .nil))) .nil) ?_
 exact aq_finp hb0 rfl (.cell rfl rfl ty26 (by rfl) (.tmp rfl (by rfl) (.tmp rfl (by rfl) .nil))) (by rfl) rfl ⟨rfl, rfl⟩

/- 15: beadroll/beadrolllaw19.alive -/
def F15_beadrolllaw19_alive (n : Nat)  : Option (Bool) :=
  ((F35_beadrolllaw19_line n ).bind fun (y1 : GLine) => ((F16_queue_Ready n y1 (3 : Int)).bind fun (y3 : (List GTx) × Int) => ((F35_beadrolllaw19_line n ).bind fun (y5 : GLine) => ((F16_queue_Ready n y5 (5 : Int)).bind fun (y7 : (List GTx) × Int) => ((F35_beadrolllaw19_line n ).bind fun (y9 : GLine) => ((F17_queue_Past n y9 (4 : Int)).bind fun (y11 : GLine × (List GTx) × Int) => (((if (y3.2 == (0 : Int)) = true then ((F36_beadrolllaw19_one n (3 : Int) (1 : Int)).bind fun (y14 : GTx) => ((F36_beadrolllaw19_one n (4 : Int) (1 : Int)).bind fun (y16 : GTx) => ((F20_beadrollref19_SameTxs n y3.1 ([y14, y16] : List GTx)).bind fun (y18 : Bool) => (if y18 = true then (if (y7.2 == (0 : Int)) = true then (if (((y7.1).length : Int) == (0 : Int)) = true then (if (y11.2.2 == (0 : Int)) = true then (if (((y11.1.Txs).length : Int) == (2 : Int)) = true then ((F36_beadrolllaw19_one n (3 : Int) (1 : Int)).bind fun (y25 : GTx) => ((F20_beadrollref19_SameTxs n y11.2.1 ([y25] : List GTx)).bind fun (y27 : Bool) => some y27)) else some false) else some false) else some false) else some false) else some false)))) else some false)).bind fun (o29 : Bool) => some o29)))))))
theorem F15_beadrolllaw19_alive_ok {n : Nat}  {r : Bool} (h : F15_beadrolllaw19_alive n  = some r) :
    ACall Tryd.prog GS 15 [] [] (fun r' hp' => r' = .d (.val (.bool r)) ∧ hp' = []) := by
 refine acall_of_body mixed Tryd.func15 rfl (by rfl) ?_
 intro C hro hgl hb0
 unfold F15_beadrolllaw19_alive at h
 refine aw_rs ?_
 refine .as rfl (by rfl) ?_
 refine .nil (aq_then ?_)
 refine aw_rs ?_
 obtain ⟨y1, hy2, h⟩ := bind_some h
 refine .v (f_callP hgl (by rfl) en35 rfl (by rfl) (by rfl) (by rfl) (F35_beadrolllaw19_line_ok hy2)) rfl .nil .nil ?_
 obtain ⟨y3, hy4, h⟩ := bind_some h
 refine .v (f_callP hgl (by rfl) en16 rfl (by rfl) (by rfl) (by rfl) (F16_queue_Ready_ok hy4)) rfl (.c rfl (.c rfl .nil)) .nil ?_
 refine .mv rfl (by rfl) ?_
 refine .v (f_extract (by rfl) rfl) rfl (.c rfl .nil) .nil ?_
 refine .v (f_extract (by rfl) rfl) rfl (.c rfl .nil) .nil ?_
 refine .as rfl (by rfl) ?_
 refine .as rfl (by rfl) ?_
 refine .nil (aq_then ?_)
 refine aw_rs ?_
 obtain ⟨y5, hy6, h⟩ := bind_some h
 refine .v (f_callP hgl (by rfl) en35 rfl (by rfl) (by rfl) (by rfl) (F35_beadrolllaw19_line_ok hy6)) rfl .nil .nil ?_
 obtain ⟨y7, hy8, h⟩ := bind_some h
 refine .v (f_callP hgl (by rfl) en16 rfl (by rfl) (by rfl) (by rfl) (F16_queue_Ready_ok hy8)) rfl (.c rfl (.c rfl .nil)) .nil ?_
 refine .mv rfl (by rfl) ?_
 refine .v (f_extract (by rfl) rfl) rfl (.c rfl .nil) .nil ?_
 refine .v (f_extract (by rfl) rfl) rfl (.c rfl .nil) .nil ?_
 refine .as rfl (by rfl) ?_
 refine .as rfl (by rfl) ?_
 refine .nil (aq_then ?_)
 refine aw_rs ?_
 obtain ⟨y9, hy10, h⟩ := bind_some h
 refine .v (f_callP hgl (by rfl) en35 rfl (by rfl) (by rfl) (by rfl) (F35_beadrolllaw19_line_ok hy10)) rfl .nil .nil ?_
 obtain ⟨y11, hy12, h⟩ := bind_some h
 refine .v (f_callP hgl (by rfl) en17 rfl (by rfl) (by rfl) (by rfl) (F17_queue_Past_ok hy12)) rfl (.c rfl (.c rfl .nil)) .nil ?_
 refine .mv rfl (by rfl) ?_
 refine .v (f_extract (by rfl) rfl) rfl (.c rfl .nil) .nil ?_
 refine .v (f_extract (by rfl) rfl) rfl (.c rfl .nil) .nil ?_
 refine .v (f_extract (by rfl) rfl) rfl (.c rfl .nil) .nil ?_
 refine .n (f_alloc 5 (by rfl) zrv26) rfl .nil rfl ?_
 refine .s (f_store (n := 0) (o := 5) (off := 0) (p := []) (c := .st [.d (eA22 (List.replicate 32 (0 : Int))), .d (.val (.slice none 0 0))]) (old := .st [.d (eA22 (List.replicate 32 (0 : Int))), .d (.val (.slice none 0 0))]) (z := .d (eGLine y11.1)) (c' := .d (eGLine y11.1)) rfl rfl (by rfl) ty26 (by rfl)) rfl (.c rfl (.c rfl .nil)) (.cons rfl .nil) ?_
 refine .as rfl (by rfl) ?_
 refine .as rfl (by rfl) ?_
 refine .nil (aq_then ?_)
 refine aw_seq ?_
 obtain ⟨o29, ho30, h⟩ := bind_some h
 refine aw_join (.normal) ⟨[(0, .d (.val (.bool o29)))], [], []⟩ ?_ ?_
 · replace h := ho30
   refine aw_r ?_
   refine .mv rfl (by rfl) ?_
   refine .v (f_binI (by rfl) rfl (by rfl)) rfl (.c rfl (.c rfl .nil)) .nil ?_
   refine .mv rfl (by rfl) ?_
   rcases Bool.eq_false_or_eq_true (y3.2 == (0 : Int)) with hc13 | hc13
   · replace h := ite_t hc13 h
     refine .gv (f_move (by rfl)) rfl rfl rfl hc13 (.c rfl .nil) .nil ?_
     obtain ⟨y14, hy15, h⟩ := bind_some h
     refine .gv (f_callP hgl (by rfl) en36 rfl (by rfl) (by rfl) (by rfl) (F36_beadrolllaw19_one_ok hy15)) rfl rfl rfl hc13 (.c rfl (.c rfl .nil)) .nil ?_
     obtain ⟨y16, hy17, h⟩ := bind_some h
     refine .gv (f_callP hgl (by rfl) en36 rfl (by rfl) (by rfl) (by rfl) (F36_beadrolllaw19_one_ok hy17)) rfl rfl rfl hc13 (.c rfl (.c rfl .nil)) .nil ?_
     refine .gw (f_buildS (xs := [(0, .d (eGTx y14)), (1, .d (eGTx y16))]) (z := (.st [(eA22 (List.replicate 32 (0 : Int))), (eA22 (List.replicate 32 (0 : Int))), (.val (.int .u64 (0 : Int))), (.val (.int .u64 (0 : Int))), (.val (.int .u64 (0 : Int))), (eA22 (List.replicate 32 (0 : Int)))])) (zs := (([y14, y16] : List GTx)).map eGTx) 1073 (by rfl) el24 zel24 (by rfl) (by decide) (by decide) rfl (by rfl) ⟨_, _, _, rfl, pl24_0, rfl, rfl, ⟨_, _, _, rfl, pl24_1, rfl, rfl, trivial⟩⟩ (by rfl)) rfl rfl rfl hc13 (.c rfl (.c rfl .nil)) .nil (.cons rfl .nil) ?_
     obtain ⟨y18, hy19, h⟩ := bind_some h
     refine .gw (f_callH0 (xs := [.d (eL24 y3.1), .slc 1073 0 ((([y14, y16] : List GTx)).length) 99]) (r := .d (.val (.bool y18))) (hr := []) (fun i => i) [(1073, (.arr 99 ((([y14, y16] : List GTx)).length) ((([y14, y16] : List GTx)).map eGTx)))] hgl (by rfl) (cal_f en20) rfl (by rfl) (by rfl) (by rfl) (by rfl) (by rfl) (.cons (.same _) (.cons (.whole (.head _)) .nil)) rfl rfl (flat_val) trivial (F20_beadrollref19_SameTxs_ok hy19)) rfl rfl rfl hc13 (.c rfl (.c rfl .nil)) (.cons rfl .nil) .nil ?_
     refine .v (f_pick_true (by rfl) hc13) rfl (.c rfl (.c rfl .nil)) .nil ?_
     refine .mv rfl (by rfl) ?_
     rcases Bool.eq_false_or_eq_true y18 with hc20 | hc20
     · replace h := ite_t hc20 h
       refine .gv (f_move (by rfl)) rfl rfl rfl hc20 (.c rfl .nil) .nil ?_
       refine .gv (f_binI (by rfl) rfl (by rfl)) rfl rfl rfl hc20 (.c rfl (.c rfl .nil)) .nil ?_
       refine .v (f_pick_true (by rfl) hc20) rfl (.c rfl (.c rfl .nil)) .nil ?_
       refine .mv rfl (by rfl) ?_
       rcases Bool.eq_false_or_eq_true (y7.2 == (0 : Int)) with hc21 | hc21
       · replace h := ite_t hc21 h
         refine .gv (f_move (by rfl)) rfl rfl rfl hc21 (.c rfl .nil) .nil ?_
         refine .gv (f_lenD (n := (y7.1).length) (by rfl) sl24 rfl (by simp)) rfl rfl rfl hc21 (.c rfl .nil) .nil ?_
         refine .gv (f_binI (by rfl) rfl (by rfl)) rfl rfl rfl hc21 (.c rfl (.c rfl .nil)) .nil ?_
         refine .v (f_pick_true (by rfl) hc21) rfl (.c rfl (.c rfl .nil)) .nil ?_
         refine .mv rfl (by rfl) ?_
         rcases Bool.eq_false_or_eq_true (((y7.1).length : Int) == (0 : Int)) with hc22 | hc22
         · replace h := ite_t hc22 h
           refine .gv (f_move (by rfl)) rfl rfl rfl hc22 (.c rfl .nil) .nil ?_
           refine .gv (f_binI (by rfl) rfl (by rfl)) rfl rfl rfl hc22 (.c rfl (.c rfl .nil)) .nil ?_
           refine .v (f_pick_true (by rfl) hc22) rfl (.c rfl (.c rfl .nil)) .nil ?_
           refine .mv rfl (by rfl) ?_
           rcases Bool.eq_false_or_eq_true (y11.2.2 == (0 : Int)) with hc23 | hc23
           · replace h := ite_t hc23 h
             refine .gv (f_fieldAddr (n := 32) (by rfl) fl26_1 (by decide)) rfl rfl rfl hc23 (.c rfl .nil) .nil ?_
             refine .gv (f_load (n := 0) (o := 5) (off := (0 + 32)) (p := [1]) (c := .d (eGLine y11.1)) (z := .d (eL24 y11.1.Txs)) (by rfl) rfl ty24 (by rfl)) rfl rfl rfl hc23 (.c rfl .nil) (.cons rfl .nil) ?_
             refine .gv (f_lenD (n := (y11.1.Txs).length) (by rfl) sl24 rfl (by simp)) rfl rfl rfl hc23 (.c rfl .nil) .nil ?_
             refine .gv (f_binI (by rfl) rfl (by rfl)) rfl rfl rfl hc23 (.c rfl (.c rfl .nil)) .nil ?_
             refine .v (f_pick_true (by rfl) hc23) rfl (.c rfl (.c rfl .nil)) .nil ?_
             refine .mv rfl (by rfl) ?_
             rcases Bool.eq_false_or_eq_true (((y11.1.Txs).length : Int) == (2 : Int)) with hc24 | hc24
             · replace h := ite_t hc24 h
               refine .gv (f_move (by rfl)) rfl rfl rfl hc24 (.c rfl .nil) .nil ?_
               obtain ⟨y25, hy26, h⟩ := bind_some h
               refine .gv (f_callP hgl (by rfl) en36 rfl (by rfl) (by rfl) (by rfl) (F36_beadrolllaw19_one_ok hy26)) rfl rfl rfl hc24 (.c rfl (.c rfl .nil)) .nil ?_
               refine .gw (f_buildS (xs := [(0, .d (eGTx y25))]) (z := (.st [(eA22 (List.replicate 32 (0 : Int))), (eA22 (List.replicate 32 (0 : Int))), (.val (.int .u64 (0 : Int))), (.val (.int .u64 (0 : Int))), (.val (.int .u64 (0 : Int))), (eA22 (List.replicate 32 (0 : Int)))])) (zs := (([y25] : List GTx)).map eGTx) 1074 (by rfl) el24 zel24 (by rfl) (by decide) (by decide) rfl (by rfl) ⟨_, _, _, rfl, pl24_0, rfl, rfl, trivial⟩ (by rfl)) rfl rfl rfl hc24 (.c rfl .nil) .nil (.cons rfl .nil) ?_
               obtain ⟨y27, hy28, h⟩ := bind_some h
               refine .gw (f_callH0 (xs := [.d (eL24 y11.2.1), .slc 1074 0 ((([y25] : List GTx)).length) 99]) (r := .d (.val (.bool y27))) (hr := []) (fun i => i) [(1074, (.arr 99 ((([y25] : List GTx)).length) ((([y25] : List GTx)).map eGTx)))] hgl (by rfl) (cal_f en20) rfl (by rfl) (by rfl) (by rfl) (by rfl) (by rfl) (.cons (.same _) (.cons (.whole (.head _)) .nil)) rfl rfl (flat_val) trivial (F20_beadrollref19_SameTxs_ok hy28)) rfl rfl rfl hc24 (.c rfl (.c rfl .nil)) (.cons rfl .nil) .nil ?_
               refine .v (f_pick_true (by rfl) hc24) rfl (.c rfl (.c rfl .nil)) .nil ?_
               refine .as rfl (by rfl) ?_
               refine .nil ?_
               obtain rfl := Option.some.inj h
               refine aq_weak (s' := ⟨[(0, .d (.val (.bool y27)))], [], []⟩) id hb0 (.keep rfl .nil) .nil rfl (by rfl) ?_
               exact jq
             replace h := ite_f hc24 h
             refine .off rfl rfl rfl hc24 rfl (by rfl) ?_
             refine .off rfl rfl rfl hc24 rfl (by rfl) ?_
             refine .off rfl rfl rfl hc24 rfl (by rfl) ?_
             refine .off rfl rfl rfl hc24 rfl (by rfl) ?_
             refine .v (f_pick_false (by rfl) hc24) rfl (.c rfl (.c rfl .nil)) .nil ?_
             refine .as rfl (by rfl) ?_
             refine .nil ?_
             obtain rfl := Option.some.inj h
             refine aq_weak (s' := ⟨[(0, .d (.val (.bool false)))], [], []⟩) id hb0 (.keep rfl .nil) .nil rfl (by rfl) ?_
             exact jq
           replace h := ite_f hc23 h
           refine .off rfl rfl rfl hc23 rfl (by rfl) ?_
           refine .off rfl rfl rfl hc23 rfl (by rfl) ?_
           refine .off rfl rfl rfl hc23 rfl (by rfl) ?_
           refine .off rfl rfl rfl hc23 rfl (by rfl) ?_
           refine .v (f_pick_false (by rfl) hc23) rfl (.c rfl (.c rfl .nil)) .nil ?_
           refine .mv rfl (by rfl) ?_
           refine .off rfl rfl rfl rfl rfl (by rfl) ?_
           refine .off rfl rfl rfl rfl rfl (by rfl) ?_
           refine .off rfl rfl rfl rfl rfl (by rfl) ?_
           refine .off rfl rfl rfl rfl rfl (by rfl) ?_
           refine .v (f_pick_false (by rfl) rfl) rfl (.c rfl (.c rfl .nil)) .nil ?_
           refine .as rfl (by rfl) ?_
           refine .nil ?_
           obtain rfl := Option.some.inj h
           refine aq_weak (s' := ⟨[(0, .d (.val (.bool false)))], [], []⟩) id hb0 (.keep rfl .nil) .nil rfl (by rfl) ?_
           exact jq
         replace h := ite_f hc22 h
         refine .off rfl rfl rfl hc22 rfl (by rfl) ?_
         refine .off rfl rfl rfl hc22 rfl (by rfl) ?_
         refine .v (f_pick_false (by rfl) hc22) rfl (.c rfl (.c rfl .nil)) .nil ?_
         refine .mv rfl (by rfl) ?_
         refine .off rfl rfl rfl rfl rfl (by rfl) ?_
         refine .off rfl rfl rfl rfl rfl (by rfl) ?_
         refine .off rfl rfl rfl rfl rfl (by rfl) ?_
         refine .off rfl rfl rfl rfl rfl (by rfl) ?_
         refine .v (f_pick_false (by rfl) rfl) rfl (.c rfl (.c rfl .nil)) .nil ?_
         refine .mv rfl (by rfl) ?_
         refine .off rfl rfl rfl rfl rfl (by rfl) ?_
         refine .off rfl rfl rfl rfl rfl (by rfl) ?_
         refine .off rfl rfl rfl rfl rfl (by rfl) ?_
         refine .off rfl rfl rfl rfl rfl (by rfl) ?_
         refine .v (f_pick_false (by rfl) rfl) rfl (.c rfl (.c rfl .nil)) .nil ?_
         refine .as rfl (by rfl) ?_
         refine .nil ?_
         obtain rfl := Option.some.inj h
         refine aq_weak (s' := ⟨[(0, .d (.val (.bool false)))], [], []⟩) id hb0 (.keep rfl .nil) .nil rfl (by rfl) ?_
         exact jq
       replace h := ite_f hc21 h
       refine .off rfl rfl rfl hc21 rfl (by rfl) ?_
       refine .off rfl rfl rfl hc21 rfl (by rfl) ?_
       refine .off rfl rfl rfl hc21 rfl (by rfl) ?_
       refine .v (f_pick_false (by rfl) hc21) rfl (.c rfl (.c rfl .nil)) .nil ?_
       refine .mv rfl (by rfl) ?_
       refine .off rfl rfl rfl rfl rfl (by rfl) ?_
       refine .off rfl rfl rfl rfl rfl (by rfl) ?_
       refine .v (f_pick_false (by rfl) rfl) rfl (.c rfl (.c rfl .nil)) .nil ?_
       refine .mv rfl (by rfl) ?_
       refine .off rfl rfl rfl rfl rfl (by rfl) ?_
       refine .off rfl rfl rfl rfl rfl (by rfl) ?_
       refine .off rfl rfl rfl rfl rfl (by rfl) ?_
       refine .off rfl rfl rfl rfl rfl (by rfl) ?_
       refine .v (f_pick_false (by rfl) rfl) rfl (.c rfl (.c rfl .nil)) .nil ?_
       refine .mv rfl (by rfl) ?_
       refine .off rfl rfl rfl rfl rfl (by rfl) ?_
       refine .off rfl rfl rfl rfl rfl (by rfl) ?_
       refine .off rfl rfl rfl rfl rfl (by rfl) ?_
       refine .off rfl rfl rfl rfl rfl (by rfl) ?_
       refine .v (f_pick_false (by rfl) rfl) rfl (.c rfl (.c rfl .nil)) .nil ?_
       refine .as rfl (by rfl) ?_
       refine .nil ?_
       obtain rfl := Option.some.inj h
       refine aq_weak (s' := ⟨[(0, .d (.val (.bool false)))], [], []⟩) id hb0 (.keep rfl .nil) .nil rfl (by rfl) ?_
       exact jq
     replace h := ite_f hc20 h
     refine .off rfl rfl rfl hc20 rfl (by rfl) ?_
     refine .off rfl rfl rfl hc20 rfl (by rfl) ?_
     refine .v (f_pick_false (by rfl) hc20) rfl (.c rfl (.c rfl .nil)) .nil ?_
     refine .mv rfl (by rfl) ?_
     refine .off rfl rfl rfl rfl rfl (by rfl) ?_
     refine .off rfl rfl rfl rfl rfl (by rfl) ?_
     refine .off rfl rfl rfl rfl rfl (by rfl) ?_
     refine .v (f_pick_false (by rfl) rfl) rfl (.c rfl (.c rfl .nil)) .nil ?_
     refine .mv rfl (by rfl) ?_
     refine .off rfl rfl rfl rfl rfl (by rfl) ?_
     refine .off rfl rfl rfl rfl rfl (by rfl) ?_
     refine .v (f_pick_false (by rfl) rfl) rfl (.c rfl (.c rfl .nil)) .nil ?_
     refine .mv rfl (by rfl) ?_
     refine .off rfl rfl rfl rfl rfl (by rfl) ?_
     refine .off rfl rfl rfl rfl rfl (by rfl) ?_
     refine .off rfl rfl rfl rfl rfl (by rfl) ?_
     refine .off rfl rfl rfl rfl rfl (by rfl) ?_
     refine .v (f_pick_false (by rfl) rfl) rfl (.c rfl (.c rfl .nil)) .nil ?_
     refine .mv rfl (by rfl) ?_
     refine .off rfl rfl rfl rfl rfl (by rfl) ?_
     refine .off rfl rfl rfl rfl rfl (by rfl) ?_
     refine .off rfl rfl rfl rfl rfl (by rfl) ?_
     refine .off rfl rfl rfl rfl rfl (by rfl) ?_
     refine .v (f_pick_false (by rfl) rfl) rfl (.c rfl (.c rfl .nil)) .nil ?_
     refine .as rfl (by rfl) ?_
     refine .nil ?_
     obtain rfl := Option.some.inj h
     refine aq_weak (s' := ⟨[(0, .d (.val (.bool false)))], [], []⟩) id hb0 (.keep rfl .nil) .nil rfl (by rfl) ?_
     exact jq
   replace h := ite_f hc13 h
   refine .off rfl rfl rfl hc13 rfl (by rfl) ?_
   refine .off rfl rfl rfl hc13 rfl (by rfl) ?_
   refine .off rfl rfl rfl hc13 rfl (by rfl) ?_
   refine .off rfl rfl rfl hc13 rfl (by rfl) ?_
   refine .off rfl rfl rfl hc13 rfl (by rfl) ?_
   refine .v (f_pick_false (by rfl) hc13) rfl (.c rfl (.c rfl .nil)) .nil ?_
   refine .mv rfl (by rfl) ?_
   refine .off rfl rfl rfl rfl rfl (by rfl) ?_
   refine .off rfl rfl rfl rfl rfl (by rfl) ?_
   refine .v (f_pick_false (by rfl) rfl) rfl (.c rfl (.c rfl .nil)) .nil ?_
   refine .mv rfl (by rfl) ?_
   refine .off rfl rfl rfl rfl rfl (by rfl) ?_
   refine .off rfl rfl rfl rfl rfl (by rfl) ?_
   refine .off rfl rfl rfl rfl rfl (by rfl) ?_
   refine .v (f_pick_false (by rfl) rfl) rfl (.c rfl (.c rfl .nil)) .nil ?_
   refine .mv rfl (by rfl) ?_
   refine .off rfl rfl rfl rfl rfl (by rfl) ?_
   refine .off rfl rfl rfl rfl rfl (by rfl) ?_
   refine .v (f_pick_false (by rfl) rfl) rfl (.c rfl (.c rfl .nil)) .nil ?_
   refine .mv rfl (by rfl) ?_
   refine .off rfl rfl rfl rfl rfl (by rfl) ?_
   refine .off rfl rfl rfl rfl rfl (by rfl) ?_
   refine .off rfl rfl rfl rfl rfl (by rfl) ?_
   refine .off rfl rfl rfl rfl rfl (by rfl) ?_
   refine .v (f_pick_false (by rfl) rfl) rfl (.c rfl (.c rfl .nil)) .nil ?_
   refine .mv rfl (by rfl) ?_
   refine .off rfl rfl rfl rfl rfl (by rfl) ?_
   refine .off rfl rfl rfl rfl rfl (by rfl) ?_
   refine .off rfl rfl rfl rfl rfl (by rfl) ?_
   refine .off rfl rfl rfl rfl rfl (by rfl) ?_
   refine .v (f_pick_false (by rfl) rfl) rfl (.c rfl (.c rfl .nil)) .nil ?_
   refine .as rfl (by rfl) ?_
   refine .nil ?_
   obtain rfl := Option.some.inj h
   refine aq_weak (s' := ⟨[(0, .d (.val (.bool false)))], [], []⟩) id hb0 (.keep rfl .nil) .nil rfl (by rfl) ?_
   exact jq
 refine aq_then ?_
 refine aw_ret ?_
 obtain rfl := Option.some.inj h
 exact aq_finp hb0 rfl (.tmp rfl (by rfl) .nil) (by rfl) rfl ⟨rfl, rfl⟩

/- 6: beadroll/beadrolllaw19.QueueBest -/
def F6_beadrolllaw19_QueueBest_s0 (n : Nat) (a0 : GLine) (a1 : GTx) (y9 : GLine × (List GTx) × Int) (z0_0 : Int) : Option ((Int) ⊕ ((Unit) ⊕ (Unit))) :=
  (if (decide (z0_0 < ((a0.Txs).length : Int))) = true then ((rd a0.Txs z0_0).bind fun (x36 : GTx) => ((F19_beadrolllaw19_find n y9.1 x36.Nonce).bind fun (y39 : GTx × Bool) => (((if (!y39.2) = true then some true else ((rd a0.Txs z0_0).bind fun (x42 : GTx) => (if (x42.Nonce != a1.Nonce) = true then ((rd a0.Txs z0_0).bind fun (x46 : GTx) => some (!(decide (y39.1 = x46)))) else some false)))).bind fun (o49 : Bool) => (if o49 = true then some (.inr (.inr ())) else some (.inl (IntKind.i64.wrap (z0_0 + (1 : Int)))))))) else some (.inr (.inl ())))
def F6_beadrolllaw19_QueueBest (n : Nat) (a0 : GLine) (a1 : GTx) (a2 : GTx) : Option (Bool) :=
  ((F15_beadrolllaw19_alive n ).bind fun (y1 : Bool) => (((if (decide (((a0.Txs).length : Int) > (12 : Int))) = true then some true else (if (a1.Nonce != a2.Nonce) = true then some true else some (!y1)))).bind fun (o5 : Bool) => (if o5 = true then some y1 else ((F34_queue_Put n a0 a1).bind fun (y7 : GLine × (List GTx) × Int) => ((F34_queue_Put n y7.1 a2).bind fun (y9 : GLine × (List GTx) × Int) => (if (y7.2.2 != (0 : Int)) = true then (((if y1 = true then some (((y7.1.Txs).length : Int) == (0 : Int)) else some false)).bind fun (o13 : Bool) => some o13) else (if (y9.2.2 == (2 : Int)) = true then (((if y1 = true then ((F38_tx_Check n a2).bind fun (y17 : Int) => (if (y17 != (0 : Int)) = true then some true else ((F39_tx_From n a2).bind fun (y20 : (List Int)) => some (!(decide (y20 = a0.From)))))) else some false)).bind fun (o22 : Bool) => some o22) else ((F19_beadrolllaw19_find n y9.1 a1.Nonce).bind fun (y24 : GTx × Bool) => (if (decide (a2.Fee ≤ a1.Fee)) = true then ((F19_beadrolllaw19_find n y7.1 a1.Nonce).bind fun (y27 : GTx × Bool) => (((if y1 = true then (if (y9.2.2 == (190 : Int)) = true then (if (((y9.2.1).length : Int) == (0 : Int)) = true then (if y27.2 = true then some (decide (y27.1 = a1)) else some false) else some false) else some false) else some false)).bind fun (o33 : Bool) => some o33)) else ((loopF (fun (z : Int) => F6_beadrolllaw19_QueueBest_s0 n a0 a1 y9 z) n (0 : Int)).bind (Sum.elim (fun (j52 : Unit) => (((if y1 = true then (if (y9.2.2 == (0 : Int)) = true then (if y24.2 = true then (if (decide (y24.1 = a2)) = true then ((F20_beadrollref19_SameTxs n y9.2.1 ([a1] : List GTx)).bind fun (y58 : Bool) => (if y58 = true then ((F18_queue_Check n y9.1).bind fun (y61 : Int) => some (y61 == (0 : Int))) else some false)) else some false) else some false) else some false) else some false)).bind fun (o63 : Bool) => some o63)) (fun (j52 : Unit) => some false))))))))))))
theorem F6_beadrolllaw19_QueueBest_ok {n : Nat} {a0 : GLine} {a1 : GTx} {a2 : GTx} {r : Bool} (h : F6_beadrolllaw19_QueueBest n a0 a1 a2 = some r) :
    ACall Tryd.prog GS 6 [.d (eGLine a0), .d (eGTx a1), .d (eGTx a2)] [] (fun r' hp' => r' = .d (.val (.bool r)) ∧ hp' = []) := by
 refine acall_of_body mixed Tryd.func6 rfl (by rfl) ?_
 intro C hro hgl hb0
 unfold F6_beadrolllaw19_QueueBest at h
 refine aw_rs ?_
 refine .n (f_box 3 (by rfl) (by rfl)) rfl (.c rfl .nil) rfl ?_
 refine .n (f_box 4 (by rfl) (by rfl)) rfl (.c rfl .nil) rfl ?_
 refine .n (f_box 5 (by rfl) (by rfl)) rfl (.c rfl .nil) rfl ?_
 refine .as rfl (by rfl) ?_
 refine .nil (aq_then ?_)
 refine aw_rs ?_
 obtain ⟨y1, hy2, h⟩ := bind_some h
 refine .v (f_callP hgl (by rfl) en15 rfl (by rfl) (by rfl) (by rfl) (F15_beadrolllaw19_alive_ok hy2)) rfl .nil .nil ?_
 refine .as rfl (by rfl) ?_
 refine .nil (aq_then ?_)
 refine aw_seq ?_
 refine aw_seq ?_
 obtain ⟨o5, ho65, h⟩ := bind_some h
 refine aw_join (.normal) ⟨[(3, .ptr 3 0 []), (4, .ptr 4 0 []), (5, .ptr 5 0 []), (7, .d (.val (.bool y1))), (36, .d (.val (.bool o5)))], [(3, .av (.d (eGLine a0))), (4, .av (.d (eGTx a1))), (5, .av (.d (eGTx a2)))], []⟩ ?_ ?_
 · replace h := ho65
   refine aw_r ?_
   refine .v (f_fieldAddr (n := 32) (by rfl) fl26_1 (by decide)) rfl (.c rfl .nil) .nil ?_
   refine .v (f_load (n := 0) (o := 3) (off := (0 + 32)) (p := [1]) (c := .d (eGLine a0)) (z := .d (eL24 a0.Txs)) (by rfl) rfl ty24 (by rfl)) rfl (.c rfl .nil) (.cons rfl .nil) ?_
   refine .v (f_lenD (n := (a0.Txs).length) (by rfl) sl24 rfl (by simp)) rfl (.c rfl .nil) .nil ?_
   refine .v (f_binI (by rfl) rfl (by rfl)) rfl (.c rfl (.c rfl .nil)) .nil ?_
   refine .mv rfl (by rfl) ?_
   rcases Bool.eq_false_or_eq_true (decide (((a0.Txs).length : Int) > (12 : Int))) with hc3 | hc3
   · replace h := ite_t hc3 h
     refine .off rfl rfl rfl hc3 rfl (by rfl) ?_
     refine .off rfl rfl rfl hc3 rfl (by rfl) ?_
     refine .off rfl rfl rfl hc3 rfl (by rfl) ?_
     refine .off rfl rfl rfl hc3 rfl (by rfl) ?_
     refine .off rfl rfl rfl hc3 rfl (by rfl) ?_
     refine .v (f_pick_true (by rfl) hc3) rfl (.c rfl (.c rfl .nil)) .nil ?_
     refine .mv rfl (by rfl) ?_
     refine .off rfl rfl rfl rfl rfl (by rfl) ?_
     refine .off rfl rfl rfl rfl rfl (by rfl) ?_
     refine .v (f_pick_true (by rfl) rfl) rfl (.c rfl (.c rfl .nil)) .nil ?_
     refine .nil ?_
     obtain rfl := Option.some.inj h
     refine aq_weak (s' := ⟨[(3, .ptr 3 0 []), (4, .ptr 4 0 []), (5, .ptr 5 0 []), (7, .d (.val (.bool y1))), (36, .d (.val (.bool true)))], [(3, .av (.d (eGLine a0))), (4, .av (.d (eGTx a1))), (5, .av (.d (eGTx a2)))], []⟩) id hb0 (.keep rfl (.keep rfl (.keep rfl (.keep rfl (.keep rfl .nil))))) (.keep rfl (.keep rfl (.keep rfl .nil))) rfl (by rfl) ?_
     exact jq
   replace h := ite_f hc3 h
   refine .gv (f_fieldAddr (n := 64) (by rfl) fl36_2 (by decide)) rfl rfl rfl hc3 (.c rfl .nil) .nil ?_
   refine .gv (f_load (n := 0) (o := 4) (off := (0 + 64)) (p := [2]) (c := .d (eGTx a1)) (z := .d (.val (.int .u64 a1.Nonce))) (by rfl) rfl ty27 (by rfl)) rfl rfl rfl hc3 (.c rfl .nil) (.cons rfl .nil) ?_
   refine .gv (f_fieldAddr (n := 64) (by rfl) fl36_2 (by decide)) rfl rfl rfl hc3 (.c rfl .nil) .nil ?_
   refine .gv (f_load (n := 0) (o := 5) (off := (0 + 64)) (p := [2]) (c := .d (eGTx a2)) (z := .d (.val (.int .u64 a2.Nonce))) (by rfl) rfl ty27 (by rfl)) rfl rfl rfl hc3 (.c rfl .nil) (.cons rfl .nil) ?_
   refine .gv (f_binI (by rfl) rfl (by rfl)) rfl rfl rfl hc3 (.c rfl (.c rfl .nil)) .nil ?_
   refine .v (f_pick_false (by rfl) hc3) rfl (.c rfl (.c rfl .nil)) .nil ?_
   refine .mv rfl (by rfl) ?_
   rcases Bool.eq_false_or_eq_true (a1.Nonce != a2.Nonce) with hc4 | hc4
   · replace h := ite_t hc4 h
     refine .off rfl rfl rfl hc4 rfl (by rfl) ?_
     refine .off rfl rfl rfl hc4 rfl (by rfl) ?_
     refine .v (f_pick_true (by rfl) hc4) rfl (.c rfl (.c rfl .nil)) .nil ?_
     refine .nil ?_
     obtain rfl := Option.some.inj h
     refine aq_weak (s' := ⟨[(3, .ptr 3 0 []), (4, .ptr 4 0 []), (5, .ptr 5 0 []), (7, .d (.val (.bool y1))), (36, .d (.val (.bool true)))], [(3, .av (.d (eGLine a0))), (4, .av (.d (eGTx a1))), (5, .av (.d (eGTx a2)))], []⟩) id hb0 (.keep rfl (.keep rfl (.keep rfl (.keep rfl (.keep rfl .nil))))) (.keep rfl (.keep rfl (.keep rfl .nil))) rfl (by rfl) ?_
     exact jq
   replace h := ite_f hc4 h
   refine .gv (f_move (by rfl)) rfl rfl rfl hc4 (.c rfl .nil) .nil ?_
   refine .gv (f_not (by rfl)) rfl rfl rfl hc4 (.c rfl .nil) .nil ?_
   refine .v (f_pick_false (by rfl) hc4) rfl (.c rfl (.c rfl .nil)) .nil ?_
   refine .nil ?_
   obtain rfl := Option.some.inj h
   refine aq_weak (s' := ⟨[(3, .ptr 3 0 []), (4, .ptr 4 0 []), (5, .ptr 5 0 []), (7, .d (.val (.bool y1))), (36, .d (.val (.bool (!y1))))], [(3, .av (.d (eGLine a0))), (4, .av (.d (eGTx a1))), (5, .av (.d (eGTx a2)))], []⟩) id hb0 (.keep rfl (.keep rfl (.keep rfl (.keep rfl (.keep rfl .nil))))) (.keep rfl (.keep rfl (.keep rfl .nil))) rfl (by rfl) ?_
   exact jq
 refine aq_then ?_
 refine aw_cond rfl (fun hc6 => ?_) (fun hc6 => ?_)
 · replace h := ite_t hc6 h
   refine aw_rs ?_
   refine .mv rfl (by rfl) ?_
   refine .as rfl (by rfl) ?_
   refine .nil (aq_then ?_)
   refine aw_ret ?_
   refine aq_then_ret ?_
   obtain rfl := Option.some.inj h
   exact aq_finp hb0 rfl (.tmp rfl (by rfl) .nil) (by rfl) rfl ⟨rfl, rfl⟩
 replace h := ite_f hc6 h
 refine aw_skip ?_
 refine aq_then ?_
 refine aw_rs ?_
 refine .v (f_load (n := 0) (o := 3) (off := 0) (p := []) (c := .d (eGLine a0)) (z := .d (eGLine a0)) (by rfl) rfl ty26 (by rfl)) rfl (.c rfl .nil) (.cons rfl .nil) ?_
 refine .v (f_load (n := 0) (o := 4) (off := 0) (p := []) (c := .d (eGTx a1)) (z := .d (eGTx a1)) (by rfl) rfl ty36 (by rfl)) rfl (.c rfl .nil) (.cons rfl .nil) ?_
 obtain ⟨y7, hy8, h⟩ := bind_some h
 refine .v (f_callP hgl (by rfl) en34 rfl (by rfl) (by rfl) (by rfl) (F34_queue_Put_ok hy8)) rfl (.c rfl (.c rfl .nil)) .nil ?_
 refine .mv rfl (by rfl) ?_
 refine .v (f_extract (by rfl) rfl) rfl (.c rfl .nil) .nil ?_
 refine .v (f_extract (by rfl) rfl) rfl (.c rfl .nil) .nil ?_
 refine .v (f_extract (by rfl) rfl) rfl (.c rfl .nil) .nil ?_
 refine .n (f_alloc 8 (by rfl) zrv26) rfl .nil rfl ?_
 refine .s (f_store (n := 0) (o := 8) (off := 0) (p := []) (c := .st [.d (eA22 (List.replicate 32 (0 : Int))), .d (.val (.slice none 0 0))]) (old := .st [.d (eA22 (List.replicate 32 (0 : Int))), .d (.val (.slice none 0 0))]) (z := .d (eGLine y7.1)) (c' := .d (eGLine y7.1)) rfl rfl (by rfl) ty26 (by rfl)) rfl (.c rfl (.c rfl .nil)) (.cons rfl .nil) ?_
 refine .as rfl (by rfl) ?_
 refine .as rfl (by rfl) ?_
 refine .nil (aq_then ?_)
 refine aw_rs ?_
 refine .v (f_load (n := 0) (o := 8) (off := 0) (p := []) (c := .d (eGLine y7.1)) (z := .d (eGLine y7.1)) (by rfl) rfl ty26 (by rfl)) rfl (.c rfl .nil) (.cons rfl .nil) ?_
 refine .v (f_load (n := 0) (o := 5) (off := 0) (p := []) (c := .d (eGTx a2)) (z := .d (eGTx a2)) (by rfl) rfl ty36 (by rfl)) rfl (.c rfl .nil) (.cons rfl .nil) ?_
 obtain ⟨y9, hy10, h⟩ := bind_some h
 refine .v (f_callP hgl (by rfl) en34 rfl (by rfl) (by rfl) (by rfl) (F34_queue_Put_ok hy10)) rfl (.c rfl (.c rfl .nil)) .nil ?_
 refine .mv rfl (by rfl) ?_
 refine .v (f_extract (by rfl) rfl) rfl (.c rfl .nil) .nil ?_
 refine .v (f_extract (by rfl) rfl) rfl (.c rfl .nil) .nil ?_
 refine .v (f_extract (by rfl) rfl) rfl (.c rfl .nil) .nil ?_
 refine .n (f_alloc 11 (by rfl) zrv26) rfl .nil rfl ?_
 refine .s (f_store (n := 0) (o := 11) (off := 0) (p := []) (c := .st [.d (eA22 (List.replicate 32 (0 : Int))), .d (.val (.slice none 0 0))]) (old := .st [.d (eA22 (List.replicate 32 (0 : Int))), .d (.val (.slice none 0 0))]) (z := .d (eGLine y9.1)) (c' := .d (eGLine y9.1)) rfl rfl (by rfl) ty26 (by rfl)) rfl (.c rfl (.c rfl .nil)) (.cons rfl .nil) ?_
 refine .as rfl (by rfl) ?_
 refine .as rfl (by rfl) ?_
 refine .nil (aq_then ?_)
 refine aw_seq ?_
 refine aw_rs ?_
 refine .mv rfl (by rfl) ?_
 refine .v (f_binI (by rfl) rfl (by rfl)) rfl (.c rfl (.c rfl .nil)) .nil ?_
 refine .nil (aq_then ?_)
 refine aw_cond rfl (fun hc11 => ?_) (fun hc11 => ?_)
 · replace h := ite_t hc11 h
   refine aw_seq ?_
   obtain ⟨o13, ho14, h⟩ := bind_some h
   refine aw_join (.normal) ⟨[(6, .d (.val (.bool o13)))], [], []⟩ ?_ ?_
   · replace h := ho14
     refine aw_r ?_
     refine .mv rfl (by rfl) ?_
     refine .mv rfl (by rfl) ?_
     rcases Bool.eq_false_or_eq_true y1 with hc12 | hc12
     · replace h := ite_t hc12 h
       refine .gv (f_fieldAddr (n := 32) (by rfl) fl26_1 (by decide)) rfl rfl rfl hc12 (.c rfl .nil) .nil ?_
       refine .gv (f_load (n := 0) (o := 8) (off := (0 + 32)) (p := [1]) (c := .d (eGLine y7.1)) (z := .d (eL24 y7.1.Txs)) (by rfl) rfl ty24 (by rfl)) rfl rfl rfl hc12 (.c rfl .nil) (.cons rfl .nil) ?_
       refine .gv (f_lenD (n := (y7.1.Txs).length) (by rfl) sl24 rfl (by simp)) rfl rfl rfl hc12 (.c rfl .nil) .nil ?_
       refine .gv (f_binI (by rfl) rfl (by rfl)) rfl rfl rfl hc12 (.c rfl (.c rfl .nil)) .nil ?_
       refine .v (f_pick_true (by rfl) hc12) rfl (.c rfl (.c rfl .nil)) .nil ?_
       refine .as rfl (by rfl) ?_
       refine .nil ?_
       obtain rfl := Option.some.inj h
       refine aq_weak (s' := ⟨[(6, .d (.val (.bool (((y7.1.Txs).length : Int) == (0 : Int)))))], [], []⟩) id hb0 (.keep rfl .nil) .nil rfl (by rfl) ?_
       exact jq
     replace h := ite_f hc12 h
     refine .off rfl rfl rfl hc12 rfl (by rfl) ?_
     refine .off rfl rfl rfl hc12 rfl (by rfl) ?_
     refine .off rfl rfl rfl hc12 rfl (by rfl) ?_
     refine .off rfl rfl rfl hc12 rfl (by rfl) ?_
     refine .v (f_pick_false (by rfl) hc12) rfl (.c rfl (.c rfl .nil)) .nil ?_
     refine .as rfl (by rfl) ?_
     refine .nil ?_
     obtain rfl := Option.some.inj h
     refine aq_weak (s' := ⟨[(6, .d (.val (.bool false)))], [], []⟩) id hb0 (.keep rfl .nil) .nil rfl (by rfl) ?_
     exact jq
   refine aq_then ?_
   refine aw_ret ?_
   refine aq_then_ret ?_
   obtain rfl := Option.some.inj h
   exact aq_finp hb0 rfl (.tmp rfl (by rfl) .nil) (by rfl) rfl ⟨rfl, rfl⟩
 replace h := ite_f hc11 h
 refine aw_skip ?_
 refine aq_then ?_
 refine aw_seq ?_
 refine aw_rs ?_
 refine .mv rfl (by rfl) ?_
 refine .v (f_binI (by rfl) rfl (by rfl)) rfl (.c rfl (.c rfl .nil)) .nil ?_
 refine .nil (aq_then ?_)
 refine aw_cond rfl (fun hc15 => ?_) (fun hc15 => ?_)
 · replace h := ite_t hc15 h
   refine aw_seq ?_
   obtain ⟨o22, ho23, h⟩ := bind_some h
   refine aw_join (.normal) ⟨[(6, .d (.val (.bool o22)))], [], []⟩ ?_ ?_
   · replace h := ho23
     refine aw_rd ?_
     refine .v (f_move (by rfl)) rfl (.c rfl .nil) .nil ?_
     refine .v (f_move (by rfl)) rfl (.c rfl .nil) .nil ?_
     rcases Bool.eq_false_or_eq_true y1 with hc16 | hc16
     · replace h := ite_t hc16 h
       refine .gv (f_load (n := 0) (o := 5) (off := 0) (p := []) (c := .d (eGTx a2)) (z := .d (eGTx a2)) (by rfl) rfl ty36 (by rfl)) rfl rfl rfl hc16 (.c rfl .nil) (.cons rfl .nil) ?_
       obtain ⟨y17, hy18, h⟩ := bind_some h
       refine .gv (f_callP hgl (by rfl) en38 rfl (by rfl) (by rfl) (by rfl) (F38_tx_Check_ok hy18)) rfl rfl rfl hc16 (.c rfl .nil) .nil ?_
       refine .gv (f_binI (by rfl) rfl (by rfl)) rfl rfl rfl hc16 (.c rfl (.c rfl .nil)) .nil ?_
       refine .gv (f_move (by rfl)) rfl rfl rfl hc16 (.c rfl .nil) .nil ?_
       rcases Bool.eq_false_or_eq_true (y17 != (0 : Int)) with hc19 | hc19
       · replace h := ite_t hc19 h
         refine .off rfl rfl rfl hc19 rfl (by rfl) ?_
         refine .off rfl rfl rfl hc19 rfl (by rfl) ?_
         refine .off rfl rfl rfl hc19 rfl (by rfl) ?_
         refine .off rfl rfl rfl hc19 rfl (by rfl) ?_
         refine .off rfl rfl rfl hc19 rfl (by rfl) ?_
         refine .gv (f_pick_true (by rfl) hc19) rfl rfl rfl hc16 (.c rfl (.c rfl .nil)) .nil ?_
         refine .v (f_pick_true (by rfl) hc16) rfl (.c rfl (.c rfl .nil)) .nil ?_
         refine .v (f_assign (by rfl)) rfl (.c rfl .nil) .nil ?_
         refine .nil (by kernel_rfl) ?_
         obtain rfl := Option.some.inj h
         refine aq_weak (s' := ⟨[(6, .d (.val (.bool true)))], [], []⟩) id hb0 (.keep rfl .nil) .nil rfl (by rfl) ?_
         exact jq
       replace h := ite_f hc19 h
       refine .gv (f_load (n := 0) (o := 5) (off := 0) (p := []) (c := .d (eGTx a2)) (z := .d (eGTx a2)) (by rfl) rfl ty36 (by rfl)) rfl rfl rfl hc19 (.c rfl .nil) (.cons rfl .nil) ?_
       obtain ⟨y20, hy21, h⟩ := bind_some h
       refine .gv (f_callP hgl (by rfl) en39 rfl (by rfl) (by rfl) (by rfl) (F39_tx_From_ok hy21)) rfl rfl rfl hc19 (.c rfl .nil) .nil ?_
       refine .gv (f_fieldAddr (n := 0) (by rfl) fl26_0 (by decide)) rfl rfl rfl hc19 (.c rfl .nil) .nil ?_
       refine .gv (f_load (n := 0) (o := 3) (off := (0 + 0)) (p := [0]) (c := .d (eGLine a0)) (z := .d (eA22 a0.From)) (by rfl) rfl ty23 (by rfl)) rfl rfl rfl hc19 (.c rfl .nil) (.cons rfl .nil) ?_
       refine .gv (f_neqT (by rfl) (fit23 _) (fit23 _) (by rfl) (by rfl) gd23 (eq_eA22 _ _)) rfl rfl rfl hc19 (.c rfl (.c rfl .nil)) .nil ?_
       refine .gv (f_pick_false (by rfl) hc19) rfl rfl rfl hc16 (.c rfl (.c rfl .nil)) .nil ?_
       refine .v (f_pick_true (by rfl) hc16) rfl (.c rfl (.c rfl .nil)) .nil ?_
       refine .v (f_assign (by rfl)) rfl (.c rfl .nil) .nil ?_
       refine .nil (by kernel_rfl) ?_
       obtain rfl := Option.some.inj h
       refine aq_weak (s' := ⟨[(6, .d (.val (.bool (!(decide (y20 = a0.From))))))], [], []⟩) id hb0 (.keep rfl .nil) .nil rfl (by rfl) ?_
       exact jq
     replace h := ite_f hc16 h
     refine .off rfl rfl rfl hc16 rfl (by rfl) ?_
     refine .off rfl rfl rfl hc16 rfl (by rfl) ?_
     refine .off rfl rfl rfl hc16 rfl (by rfl) ?_
     refine .off rfl rfl rfl hc16 rfl (by rfl) ?_
     refine .offu rfl rfl rfl rfl (by rfl) ?_
     refine .offu rfl rfl rfl rfl (by rfl) ?_
     refine .offu rfl rfl rfl rfl (by rfl) ?_
     refine .offu rfl rfl rfl rfl (by rfl) ?_
     refine .offu rfl rfl rfl rfl (by rfl) ?_
     refine .off rfl rfl rfl hc16 rfl (by rfl) ?_
     refine .v (f_pick_false (by rfl) hc16) rfl (.c rfl (.c rfl .nil)) .nil ?_
     refine .v (f_assign (by rfl)) rfl (.c rfl .nil) .nil ?_
     refine .nil (by kernel_rfl) ?_
     obtain rfl := Option.some.inj h
     refine aq_weak (s' := ⟨[(6, .d (.val (.bool false)))], [], []⟩) id hb0 (.keep rfl .nil) .nil rfl (by rfl) ?_
     exact jq
   refine aq_then ?_
   refine aw_ret ?_
   refine aq_then_ret ?_
   obtain rfl := Option.some.inj h
   exact aq_finp hb0 rfl (.tmp rfl (by rfl) .nil) (by rfl) rfl ⟨rfl, rfl⟩
 replace h := ite_f hc15 h
 refine aw_skip ?_
 refine aq_then ?_
 refine aw_rs ?_
 refine .v (f_load (n := 0) (o := 11) (off := 0) (p := []) (c := .d (eGLine y9.1)) (z := .d (eGLine y9.1)) (by rfl) rfl ty26 (by rfl)) rfl (.c rfl .nil) (.cons rfl .nil) ?_
 refine .v (f_fieldAddr (n := 64) (by rfl) fl36_2 (by decide)) rfl (.c rfl .nil) .nil ?_
 refine .v (f_load (n := 0) (o := 4) (off := (0 + 64)) (p := [2]) (c := .d (eGTx a1)) (z := .d (.val (.int .u64 a1.Nonce))) (by rfl) rfl ty27 (by rfl)) rfl (.c rfl .nil) (.cons rfl .nil) ?_
 obtain ⟨y24, hy25, h⟩ := bind_some h
 refine .v (f_callP hgl (by rfl) en19 rfl (by rfl) (by rfl) (by rfl) (F19_beadrolllaw19_find_ok hy25)) rfl (.c rfl (.c rfl .nil)) .nil ?_
 refine .mv rfl (by rfl) ?_
 refine .v (f_extract (by rfl) rfl) rfl (.c rfl .nil) .nil ?_
 refine .v (f_extract (by rfl) rfl) rfl (.c rfl .nil) .nil ?_
 refine .n (f_alloc 14 (by rfl) zr36) rfl .nil rfl ?_
 refine .s (f_store (n := 0) (o := 14) (off := 0) (p := []) (c := .d (eGTx (⟨(List.replicate 32 (0 : Int)), (List.replicate 32 (0 : Int)), (0 : Int), (0 : Int), (0 : Int), (List.replicate 32 (0 : Int))⟩ : GTx))) (old := .d (eGTx (⟨(List.replicate 32 (0 : Int)), (List.replicate 32 (0 : Int)), (0 : Int), (0 : Int), (0 : Int), (List.replicate 32 (0 : Int))⟩ : GTx))) (z := .d (eGTx y24.1)) (c' := .d (eGTx y24.1)) rfl rfl (by rfl) ty36 (by rfl)) rfl (.c rfl (.c rfl .nil)) (.cons rfl .nil) ?_
 refine .as rfl (by rfl) ?_
 refine .nil (aq_then ?_)
 refine aw_seq ?_
 refine aw_rs ?_
 refine .v (f_fieldAddr (n := 66) (by rfl) fl36_4 (by decide)) rfl (.c rfl .nil) .nil ?_
 refine .v (f_load (n := 0) (o := 5) (off := (0 + 66)) (p := [4]) (c := .d (eGTx a2)) (z := .d (.val (.int .u64 a2.Fee))) (by rfl) rfl ty27 (by rfl)) rfl (.c rfl .nil) (.cons rfl .nil) ?_
 refine .v (f_fieldAddr (n := 66) (by rfl) fl36_4 (by decide)) rfl (.c rfl .nil) .nil ?_
 refine .v (f_load (n := 0) (o := 4) (off := (0 + 66)) (p := [4]) (c := .d (eGTx a1)) (z := .d (.val (.int .u64 a1.Fee))) (by rfl) rfl ty27 (by rfl)) rfl (.c rfl .nil) (.cons rfl .nil) ?_
 refine .v (f_binI (by rfl) rfl (by rfl)) rfl (.c rfl (.c rfl .nil)) .nil ?_
 refine .nil (aq_then ?_)
 refine aw_cond rfl (fun hc26 => ?_) (fun hc26 => ?_)
 · replace h := ite_t hc26 h
   refine aw_rs ?_
   refine .v (f_load (n := 0) (o := 8) (off := 0) (p := []) (c := .d (eGLine y7.1)) (z := .d (eGLine y7.1)) (by rfl) rfl ty26 (by rfl)) rfl (.c rfl .nil) (.cons rfl .nil) ?_
   refine .v (f_fieldAddr (n := 64) (by rfl) fl36_2 (by decide)) rfl (.c rfl .nil) .nil ?_
   refine .v (f_load (n := 0) (o := 4) (off := (0 + 64)) (p := [2]) (c := .d (eGTx a1)) (z := .d (.val (.int .u64 a1.Nonce))) (by rfl) rfl ty27 (by rfl)) rfl (.c rfl .nil) (.cons rfl .nil) ?_
   obtain ⟨y27, hy28, h⟩ := bind_some h
   refine .v (f_callP hgl (by rfl) en19 rfl (by rfl) (by rfl) (by rfl) (F19_beadrolllaw19_find_ok hy28)) rfl (.c rfl (.c rfl .nil)) .nil ?_
   refine .mv rfl (by rfl) ?_
   refine .v (f_extract (by rfl) rfl) rfl (.c rfl .nil) .nil ?_
   refine .v (f_extract (by rfl) rfl) rfl (.c rfl .nil) .nil ?_
   refine .n (f_alloc 16 (by rfl) zr36) rfl .nil rfl ?_
   refine .s (f_store (n := 0) (o := 16) (off := 0) (p := []) (c := .d (eGTx (⟨(List.replicate 32 (0 : Int)), (List.replicate 32 (0 : Int)), (0 : Int), (0 : Int), (0 : Int), (List.replicate 32 (0 : Int))⟩ : GTx))) (old := .d (eGTx (⟨(List.replicate 32 (0 : Int)), (List.replicate 32 (0 : Int)), (0 : Int), (0 : Int), (0 : Int), (List.replicate 32 (0 : Int))⟩ : GTx))) (z := .d (eGTx y27.1)) (c' := .d (eGTx y27.1)) rfl rfl (by rfl) ty36 (by rfl)) rfl (.c rfl (.c rfl .nil)) (.cons rfl .nil) ?_
   refine .as rfl (by rfl) ?_
   refine .nil (aq_then ?_)
   refine aw_seq ?_
   obtain ⟨o33, ho34, h⟩ := bind_some h
   refine aw_join (.normal) ⟨[(6, .d (.val (.bool o33)))], [], []⟩ ?_ ?_
   · replace h := ho34
     refine aw_r ?_
     refine .mv rfl (by rfl) ?_
     refine .mv rfl (by rfl) ?_
     rcases Bool.eq_false_or_eq_true y1 with hc29 | hc29
     · replace h := ite_t hc29 h
       refine .gv (f_move (by rfl)) rfl rfl rfl hc29 (.c rfl .nil) .nil ?_
       refine .gv (f_binI (by rfl) rfl (by rfl)) rfl rfl rfl hc29 (.c rfl (.c rfl .nil)) .nil ?_
       refine .v (f_pick_true (by rfl) hc29) rfl (.c rfl (.c rfl .nil)) .nil ?_
       refine .mv rfl (by rfl) ?_
       rcases Bool.eq_false_or_eq_true (y9.2.2 == (190 : Int)) with hc30 | hc30
       · replace h := ite_t hc30 h
         refine .gv (f_move (by rfl)) rfl rfl rfl hc30 (.c rfl .nil) .nil ?_
         refine .gv (f_lenD (n := (y9.2.1).length) (by rfl) sl24 rfl (by simp)) rfl rfl rfl hc30 (.c rfl .nil) .nil ?_
         refine .gv (f_binI (by rfl) rfl (by rfl)) rfl rfl rfl hc30 (.c rfl (.c rfl .nil)) .nil ?_
         refine .v (f_pick_true (by rfl) hc30) rfl (.c rfl (.c rfl .nil)) .nil ?_
         refine .mv rfl (by rfl) ?_
         rcases Bool.eq_false_or_eq_true (((y9.2.1).length : Int) == (0 : Int)) with hc31 | hc31
         · replace h := ite_t hc31 h
           refine .gv (f_move (by rfl)) rfl rfl rfl hc31 (.c rfl .nil) .nil ?_
           refine .v (f_pick_true (by rfl) hc31) rfl (.c rfl (.c rfl .nil)) .nil ?_
           refine .mv rfl (by rfl) ?_
           rcases Bool.eq_false_or_eq_true y27.2 with hc32 | hc32
           · replace h := ite_t hc32 h
             refine .gv (f_load (n := 0) (o := 16) (off := 0) (p := []) (c := .d (eGTx y27.1)) (z := .d (eGTx y27.1)) (by rfl) rfl ty36 (by rfl)) rfl rfl rfl hc32 (.c rfl .nil) (.cons rfl .nil) ?_
             refine .gv (f_load (n := 0) (o := 4) (off := 0) (p := []) (c := .d (eGTx a1)) (z := .d (eGTx a1)) (by rfl) rfl ty36 (by rfl)) rfl rfl rfl hc32 (.c rfl .nil) (.cons rfl .nil) ?_
             refine .gv (f_eqlT (by rfl) (fit36 _) (fit36 _) (by rfl) (by rfl) gd36 (eq_eGTx _ _)) rfl rfl rfl hc32 (.c rfl (.c rfl .nil)) .nil ?_
             refine .v (f_pick_true (by rfl) hc32) rfl (.c rfl (.c rfl .nil)) .nil ?_
             refine .as rfl (by rfl) ?_
             refine .nil ?_
             obtain rfl := Option.some.inj h
             refine aq_weak (s' := ⟨[(6, .d (.val (.bool (decide (y27.1 = a1)))))], [], []⟩) id hb0 (.keep rfl .nil) .nil rfl (by rfl) ?_
             exact jq
           replace h := ite_f hc32 h
           refine .off rfl rfl rfl hc32 rfl (by rfl) ?_
           refine .off rfl rfl rfl hc32 rfl (by rfl) ?_
           refine .off rfl rfl rfl hc32 rfl (by rfl) ?_
           refine .v (f_pick_false (by rfl) hc32) rfl (.c rfl (.c rfl .nil)) .nil ?_
           refine .as rfl (by rfl) ?_
           refine .nil ?_
           obtain rfl := Option.some.inj h
           refine aq_weak (s' := ⟨[(6, .d (.val (.bool false)))], [], []⟩) id hb0 (.keep rfl .nil) .nil rfl (by rfl) ?_
           exact jq
         replace h := ite_f hc31 h
         refine .off rfl rfl rfl hc31 rfl (by rfl) ?_
         refine .v (f_pick_false (by rfl) hc31) rfl (.c rfl (.c rfl .nil)) .nil ?_
         refine .mv rfl (by rfl) ?_
         refine .off rfl rfl rfl rfl rfl (by rfl) ?_
         refine .off rfl rfl rfl rfl rfl (by rfl) ?_
         refine .off rfl rfl rfl rfl rfl (by rfl) ?_
         refine .v (f_pick_false (by rfl) rfl) rfl (.c rfl (.c rfl .nil)) .nil ?_
         refine .as rfl (by rfl) ?_
         refine .nil ?_
         obtain rfl := Option.some.inj h
         refine aq_weak (s' := ⟨[(6, .d (.val (.bool false)))], [], []⟩) id hb0 (.keep rfl .nil) .nil rfl (by rfl) ?_
         exact jq
       replace h := ite_f hc30 h
       refine .off rfl rfl rfl hc30 rfl (by rfl) ?_
       refine .off rfl rfl rfl hc30 rfl (by rfl) ?_
       refine .off rfl rfl rfl hc30 rfl (by rfl) ?_
       refine .v (f_pick_false (by rfl) hc30) rfl (.c rfl (.c rfl .nil)) .nil ?_
       refine .mv rfl (by rfl) ?_
       refine .off rfl rfl rfl rfl rfl (by rfl) ?_
       refine .v (f_pick_false (by rfl) rfl) rfl (.c rfl (.c rfl .nil)) .nil ?_
       refine .mv rfl (by rfl) ?_
       refine .off rfl rfl rfl rfl rfl (by rfl) ?_
       refine .off rfl rfl rfl rfl rfl (by rfl) ?_
       refine .off rfl rfl rfl rfl rfl (by rfl) ?_
       refine .v (f_pick_false (by rfl) rfl) rfl (.c rfl (.c rfl .nil)) .nil ?_
       refine .as rfl (by rfl) ?_
       refine .nil ?_
       obtain rfl := Option.some.inj h
       refine aq_weak (s' := ⟨[(6, .d (.val (.bool false)))], [], []⟩) id hb0 (.keep rfl .nil) .nil rfl (by rfl) ?_
       exact jq
     replace h := ite_f hc29 h
     refine .off rfl rfl rfl hc29 rfl (by rfl) ?_
     refine .off rfl rfl rfl hc29 rfl (by rfl) ?_
     refine .v (f_pick_false (by rfl) hc29) rfl (.c rfl (.c rfl .nil)) .nil ?_
     refine .mv rfl (by rfl) ?_
     refine .off rfl rfl rfl rfl rfl (by rfl) ?_
     refine .off rfl rfl rfl rfl rfl (by rfl) ?_
     refine .off rfl rfl rfl rfl rfl (by rfl) ?_
     refine .v (f_pick_false (by rfl) rfl) rfl (.c rfl (.c rfl .nil)) .nil ?_
     refine .mv rfl (by rfl) ?_
     refine .off rfl rfl rfl rfl rfl (by rfl) ?_
     refine .v (f_pick_false (by rfl) rfl) rfl (.c rfl (.c rfl .nil)) .nil ?_
     refine .mv rfl (by rfl) ?_
     refine .off rfl rfl rfl rfl rfl (by rfl) ?_
     refine .off rfl rfl rfl rfl rfl (by rfl) ?_
     refine .off rfl rfl rfl rfl rfl (by rfl) ?_
     refine .v (f_pick_false (by rfl) rfl) rfl (.c rfl (.c rfl .nil)) .nil ?_
     refine .as rfl (by rfl) ?_
     refine .nil ?_
     obtain rfl := Option.some.inj h
     refine aq_weak (s' := ⟨[(6, .d (.val (.bool false)))], [], []⟩) id hb0 (.keep rfl .nil) .nil rfl (by rfl) ?_
     exact jq
   refine aq_then ?_
   refine aw_ret ?_
   refine aq_then_ret ?_
   obtain rfl := Option.some.inj h
   exact aq_finp hb0 rfl (.tmp rfl (by rfl) .nil) (by rfl) rfl ⟨rfl, rfl⟩
 replace h := ite_f hc26 h
 refine aw_skip ?_
 refine aq_then ?_
 refine aw_seq ?_
 refine aw_rs ?_
 refine .as rfl (by rfl) ?_
 refine .nil (aq_then ?_)
 refine aw_block ?_
 refine aw_weak (s' := ⟨[(3, .ptr 3 0 []), (4, .ptr 4 0 []), (5, .ptr 5 0 []), (7, .d (.val (.bool y1))), (11, .ptr 11 0 []), (12, .d (eL24 y9.2.1)), (13, .d (.val (.int .i64 y9.2.2))), (14, .ptr 14 0 []), (15, .d (.val (.bool y24.2))), (18, .d (.val (.int .i64 (0 : Int))))], [(3, .av (.d (eGLine a0))), (4, .av (.d (eGTx a1))), (5, .av (.d (eGTx a2))), (11, .av (.d (eGLine y9.1))), (14, .av (.d (eGTx y24.1)))], []⟩) id hb0 (.keep rfl (.keep rfl (.keep rfl (.keep rfl (.keep rfl (.keep rfl (.keep rfl (.keep rfl (.keep rfl (.keep rfl .nil)))))))))) (.keep rfl (.keep rfl (.keep rfl (.keep rfl (.keep rfl .nil))))) rfl (by rfl) ?_
 obtain ⟨o52, ho53, h⟩ := bind_some h
 refine aw_loopX (σ := Int) (fun z => ⟨[(3, .ptr 3 0 []), (4, .ptr 4 0 []), (5, .ptr 5 0 []), (7, .d (.val (.bool y1))), (11, .ptr 11 0 []), (12, .d (eL24 y9.2.1)), (13, .d (.val (.int .i64 y9.2.2))), (14, .ptr 14 0 []), (15, .d (.val (.bool y24.2))), (18, .d (.val (.int .i64 z)))], [(3, .av (.d (eGLine a0))), (4, .av (.d (eGTx a1))), (5, .av (.d (eGTx a2))), (11, .av (.d (eGLine y9.1))), (14, .av (.d (eGTx y24.1)))], []⟩) (Sum.elim (fun _ => .exit 0) (fun _ => .ret)) (Sum.elim (fun j52 => ⟨[(4, .ptr 4 0 []), (5, .ptr 5 0 []), (7, .d (.val (.bool y1))), (11, .ptr 11 0 []), (12, .d (eL24 y9.2.1)), (13, .d (.val (.int .i64 y9.2.2))), (14, .ptr 14 0 []), (15, .d (.val (.bool y24.2)))], [(4, .av (.d (eGTx a1))), (5, .av (.d (eGTx a2))), (11, .av (.d (eGLine y9.1))), (14, .av (.d (eGTx y24.1)))], []⟩) (fun j52 => ⟨[(6, .d (.val (.bool false)))], [], []⟩)) ho53 (by intro b; rcases b with _ | _ <;> rfl) ?_ ?_
 · clear h ho53
   intro z0_0 o h
   change F6_beadrolllaw19_QueueBest_s0 n a0 a1 y9 z0_0 = some o at h
   unfold F6_beadrolllaw19_QueueBest_s0 at h
   show AW _ _ _ ⟨[(3, .ptr 3 0 []), (4, .ptr 4 0 []), (5, .ptr 5 0 []), (7, .d (.val (.bool y1))), (11, .ptr 11 0 []), (12, .d (eL24 y9.2.1)), (13, .d (.val (.int .i64 y9.2.2))), (14, .ptr 14 0 []), (15, .d (.val (.bool y24.2))), (18, .d (.val (.int .i64 z0_0)))], [(3, .av (.d (eGLine a0))), (4, .av (.d (eGTx a1))), (5, .av (.d (eGTx a2))), (11, .av (.d (eGLine y9.1))), (14, .av (.d (eGTx y24.1)))], []⟩
   refine aw_seq ?_
   refine aw_rs ?_
   refine .mv rfl (by rfl) ?_
   refine .v (f_fieldAddr (n := 32) (by rfl) fl26_1 (by decide)) rfl (.c rfl .nil) .nil ?_
   refine .v (f_load (n := 0) (o := 3) (off := (0 + 32)) (p := [1]) (c := .d (eGLine a0)) (z := .d (eL24 a0.Txs)) (by rfl) rfl ty24 (by rfl)) rfl (.c rfl .nil) (.cons rfl .nil) ?_
   refine .v (f_lenD (n := (a0.Txs).length) (by rfl) sl24 rfl (by simp)) rfl (.c rfl .nil) .nil ?_
   refine .v (f_binI (by rfl) rfl (by rfl)) rfl (.c rfl (.c rfl .nil)) .nil ?_
   refine .nil (aq_then ?_)
   refine aw_cond rfl (fun hc35 => ?_) (fun hc35 => ?_)
   · replace h := ite_t hc35 h
     refine aw_skip ?_
     refine aq_then ?_
     refine aw_seq ?_
     refine aw_block ?_
     refine aw_rds ?_
     refine .v (f_load (n := 0) (o := 11) (off := 0) (p := []) (c := .d (eGLine y9.1)) (z := .d (eGLine y9.1)) (by rfl) rfl ty26 (by rfl)) rfl (.c rfl .nil) (.cons rfl .nil) ?_
     refine .v (f_fieldAddr (n := 32) (by rfl) fl26_1 (by decide)) rfl (.c rfl .nil) .nil ?_
     refine .v (f_load (n := 0) (o := 3) (off := (0 + 32)) (p := [1]) (c := .d (eGLine a0)) (z := .d (eL24 a0.Txs)) (by rfl) rfl ty24 (by rfl)) rfl (.c rfl .nil) (.cons rfl .nil) ?_
     refine .v (f_move (by rfl)) rfl (.c rfl .nil) .nil ?_
     obtain ⟨x36, hx37, h⟩ := bind_some h
     obtain ⟨hx38, hx37⟩ := rd_some hx37
     refine .v (f_indexS (by rfl) sl24 hx38 (rd_map _ hx37)) rfl (.c rfl (.c rfl .nil)) .nil ?_
     refine .v (f_fieldAddrR (by rfl) fl36_2 (by decide) rfl) rfl (.c rfl .nil) .nil ?_
     refine .v (f_loadR (z := (.val (.int .u64 x36.Nonce))) (by rfl) ty27) rfl (.c rfl .nil) .nil ?_
     obtain ⟨y39, hy40, h⟩ := bind_some h
     refine .v (f_callP hgl (by rfl) en19 rfl (by rfl) (by rfl) (by rfl) (F19_beadrolllaw19_find_ok hy40)) rfl (.c rfl (.c rfl .nil)) .nil ?_
     refine .v (f_move (by rfl)) rfl (.c rfl .nil) .nil ?_
     refine .v (f_extract (by rfl) rfl) rfl (.c rfl .nil) .nil ?_
     refine .v (f_extract (by rfl) rfl) rfl (.c rfl .nil) .nil ?_
     refine .n (f_alloc 19 (by rfl) zr36) rfl .nil rfl ?_
     refine .s (f_store (n := 0) (o := 19) (off := 0) (p := []) (c := .d (eGTx (⟨(List.replicate 32 (0 : Int)), (List.replicate 32 (0 : Int)), (0 : Int), (0 : Int), (0 : Int), (List.replicate 32 (0 : Int))⟩ : GTx))) (old := .d (eGTx (⟨(List.replicate 32 (0 : Int)), (List.replicate 32 (0 : Int)), (0 : Int), (0 : Int), (0 : Int), (List.replicate 32 (0 : Int))⟩ : GTx))) (z := .d (eGTx y39.1)) (c' := .d (eGTx y39.1)) rfl rfl (by rfl) ty36 (by rfl)) rfl (.c rfl (.c rfl .nil)) (.cons rfl .nil) ?_
     refine .v (f_assign (by rfl)) rfl (.c rfl .nil) .nil ?_
     refine .nil (by kernel_rfl) ?_
     refine aw_seq ?_
     obtain ⟨o49, ho51, h⟩ := bind_some h
     refine aw_join (.normal) ⟨[(3, .ptr 3 0 []), (4, .ptr 4 0 []), (5, .ptr 5 0 []), (7, .d (.val (.bool y1))), (11, .ptr 11 0 []), (12, .d (eL24 y9.2.1)), (13, .d (.val (.int .i64 y9.2.2))), (14, .ptr 14 0 []), (15, .d (.val (.bool y24.2))), (18, .d (.val (.int .i64 z0_0))), (152, .d (.val (.bool o49)))], [(3, .av (.d (eGLine a0))), (4, .av (.d (eGTx a1))), (5, .av (.d (eGTx a2))), (11, .av (.d (eGLine y9.1))), (14, .av (.d (eGTx y24.1)))], []⟩ ?_ ?_
     · replace h := ho51
       refine aw_rd ?_
       refine .v (f_move (by rfl)) rfl (.c rfl .nil) .nil ?_
       refine .v (f_not (by rfl)) rfl (.c rfl .nil) .nil ?_
       refine .v (f_move (by rfl)) rfl (.c rfl .nil) .nil ?_
       rcases Bool.eq_false_or_eq_true (!y39.2) with hc41 | hc41
       · replace h := ite_t hc41 h
         refine .off rfl rfl rfl hc41 rfl (by rfl) ?_
         refine .off rfl rfl rfl hc41 rfl (by rfl) ?_
         refine .off rfl rfl rfl hc41 rfl (by rfl) ?_
         refine .off rfl rfl rfl hc41 rfl (by rfl) ?_
         refine .off rfl rfl rfl hc41 rfl (by rfl) ?_
         refine .off rfl rfl rfl hc41 rfl (by rfl) ?_
         refine .off rfl rfl rfl hc41 rfl (by rfl) ?_
         refine .off rfl rfl rfl hc41 rfl (by rfl) ?_
         refine .off rfl rfl rfl hc41 rfl (by rfl) ?_
         refine .off rfl rfl rfl hc41 rfl (by rfl) ?_
         refine .offu rfl rfl rfl rfl (by rfl) ?_
         refine .offu rfl rfl rfl rfl (by rfl) ?_
         refine .offu rfl rfl rfl rfl (by rfl) ?_
         refine .offu rfl rfl rfl rfl (by rfl) ?_
         refine .offu rfl rfl rfl rfl (by rfl) ?_
         refine .offu rfl rfl rfl rfl (by rfl) ?_
         refine .offu rfl rfl rfl rfl (by rfl) ?_
         refine .off rfl rfl rfl hc41 rfl (by rfl) ?_
         refine .v (f_pick_true (by rfl) hc41) rfl (.c rfl (.c rfl .nil)) .nil ?_
         refine .nil (by kernel_rfl) ?_
         obtain rfl := Option.some.inj h
         refine aq_weak (s' := ⟨[(3, .ptr 3 0 []), (4, .ptr 4 0 []), (5, .ptr 5 0 []), (7, .d (.val (.bool y1))), (11, .ptr 11 0 []), (12, .d (eL24 y9.2.1)), (13, .d (.val (.int .i64 y9.2.2))), (14, .ptr 14 0 []), (15, .d (.val (.bool y24.2))), (18, .d (.val (.int .i64 z0_0))), (152, .d (.val (.bool true)))], [(3, .av (.d (eGLine a0))), (4, .av (.d (eGTx a1))), (5, .av (.d (eGTx a2))), (11, .av (.d (eGLine y9.1))), (14, .av (.d (eGTx y24.1)))], []⟩) id hb0 (.keep rfl (.keep rfl (.keep rfl (.keep rfl (.keep rfl (.keep rfl (.keep rfl (.keep rfl (.keep rfl (.keep rfl (.keep rfl .nil))))))))))) (.keep rfl (.keep rfl (.keep rfl (.keep rfl (.keep rfl .nil))))) rfl (by rfl) ?_
         exact jq
       replace h := ite_f hc41 h
       refine .gv (f_fieldAddr (n := 32) (by rfl) fl26_1 (by decide)) rfl rfl rfl hc41 (.c rfl .nil) .nil ?_
       refine .gv (f_load (n := 0) (o := 3) (off := (0 + 32)) (p := [1]) (c := .d (eGLine a0)) (z := .d (eL24 a0.Txs)) (by rfl) rfl ty24 (by rfl)) rfl rfl rfl hc41 (.c rfl .nil) (.cons rfl .nil) ?_
       refine .gv (f_move (by rfl)) rfl rfl rfl hc41 (.c rfl .nil) .nil ?_
       obtain ⟨x42, hx43, h⟩ := bind_some h
       obtain ⟨hx44, hx43⟩ := rd_some hx43
       refine .gv (f_indexS (by rfl) sl24 hx44 (rd_map _ hx43)) rfl rfl rfl hc41 (.c rfl (.c rfl .nil)) .nil ?_
       refine .gv (f_fieldAddrR (by rfl) fl36_2 (by decide) rfl) rfl rfl rfl hc41 (.c rfl .nil) .nil ?_
       refine .gv (f_loadR (z := (.val (.int .u64 x42.Nonce))) (by rfl) ty27) rfl rfl rfl hc41 (.c rfl .nil) .nil ?_
       refine .gv (f_fieldAddr (n := 64) (by rfl) fl36_2 (by decide)) rfl rfl rfl hc41 (.c rfl .nil) .nil ?_
       refine .gv (f_load (n := 0) (o := 4) (off := (0 + 64)) (p := [2]) (c := .d (eGTx a1)) (z := .d (.val (.int .u64 a1.Nonce))) (by rfl) rfl ty27 (by rfl)) rfl rfl rfl hc41 (.c rfl .nil) (.cons rfl .nil) ?_
       refine .gv (f_binI (by rfl) rfl (by rfl)) rfl rfl rfl hc41 (.c rfl (.c rfl .nil)) .nil ?_
       refine .gv (f_move (by rfl)) rfl rfl rfl hc41 (.c rfl .nil) .nil ?_
       rcases Bool.eq_false_or_eq_true (x42.Nonce != a1.Nonce) with hc45 | hc45
       · replace h := ite_t hc45 h
         refine .gv (f_load (n := 0) (o := 19) (off := 0) (p := []) (c := .d (eGTx y39.1)) (z := .d (eGTx y39.1)) (by rfl) rfl ty36 (by rfl)) rfl rfl rfl hc45 (.c rfl .nil) (.cons rfl .nil) ?_
         refine .gv (f_fieldAddr (n := 32) (by rfl) fl26_1 (by decide)) rfl rfl rfl hc45 (.c rfl .nil) .nil ?_
         refine .gv (f_load (n := 0) (o := 3) (off := (0 + 32)) (p := [1]) (c := .d (eGLine a0)) (z := .d (eL24 a0.Txs)) (by rfl) rfl ty24 (by rfl)) rfl rfl rfl hc45 (.c rfl .nil) (.cons rfl .nil) ?_
         refine .gv (f_move (by rfl)) rfl rfl rfl hc45 (.c rfl .nil) .nil ?_
         obtain ⟨x46, hx47, h⟩ := bind_some h
         obtain ⟨hx48, hx47⟩ := rd_some hx47
         refine .gv (f_indexS (by rfl) sl24 hx48 (rd_map _ hx47)) rfl rfl rfl hc45 (.c rfl (.c rfl .nil)) .nil ?_
         refine .gv (f_loadR (z := (eGTx x46)) (by rfl) ty36) rfl rfl rfl hc45 (.c rfl .nil) .nil ?_
         refine .gv (f_neqT (by rfl) (fit36 _) (fit36 _) (by rfl) (by rfl) gd36 (eq_eGTx _ _)) rfl rfl rfl hc45 (.c rfl (.c rfl .nil)) .nil ?_
         refine .gv (f_pick_true (by rfl) hc45) rfl rfl rfl hc41 (.c rfl (.c rfl .nil)) .nil ?_
         refine .v (f_pick_false (by rfl) hc41) rfl (.c rfl (.c rfl .nil)) .nil ?_
         refine .nil (by kernel_rfl) ?_
         obtain rfl := Option.some.inj h
         refine aq_weak (s' := ⟨[(3, .ptr 3 0 []), (4, .ptr 4 0 []), (5, .ptr 5 0 []), (7, .d (.val (.bool y1))), (11, .ptr 11 0 []), (12, .d (eL24 y9.2.1)), (13, .d (.val (.int .i64 y9.2.2))), (14, .ptr 14 0 []), (15, .d (.val (.bool y24.2))), (18, .d (.val (.int .i64 z0_0))), (152, .d (.val (.bool (!(decide (y39.1 = x46))))))], [(3, .av (.d (eGLine a0))), (4, .av (.d (eGTx a1))), (5, .av (.d (eGTx a2))), (11, .av (.d (eGLine y9.1))), (14, .av (.d (eGTx y24.1)))], []⟩) id hb0 (.keep rfl (.keep rfl (.keep rfl (.keep rfl (.keep rfl (.keep rfl (.keep rfl (.keep rfl (.keep rfl (.keep rfl (.keep rfl .nil))))))))))) (.keep rfl (.keep rfl (.keep rfl (.keep rfl (.keep rfl .nil))))) rfl (by rfl) ?_
         exact jq
       replace h := ite_f hc45 h
       refine .off rfl rfl rfl hc45 rfl (by rfl) ?_
       refine .off rfl rfl rfl hc45 rfl (by rfl) ?_
       refine .off rfl rfl rfl hc45 rfl (by rfl) ?_
       refine .off rfl rfl rfl hc45 rfl (by rfl) ?_
       refine .off rfl rfl rfl hc45 rfl (by rfl) ?_
       refine .off rfl rfl rfl hc45 rfl (by rfl) ?_
       refine .off rfl rfl rfl hc45 rfl (by rfl) ?_
       refine .gv (f_pick_false (by rfl) hc45) rfl rfl rfl hc41 (.c rfl (.c rfl .nil)) .nil ?_
       refine .v (f_pick_false (by rfl) hc41) rfl (.c rfl (.c rfl .nil)) .nil ?_
       refine .nil (by kernel_rfl) ?_
       obtain rfl := Option.some.inj h
       refine aq_weak (s' := ⟨[(3, .ptr 3 0 []), (4, .ptr 4 0 []), (5, .ptr 5 0 []), (7, .d (.val (.bool y1))), (11, .ptr 11 0 []), (12, .d (eL24 y9.2.1)), (13, .d (.val (.int .i64 y9.2.2))), (14, .ptr 14 0 []), (15, .d (.val (.bool y24.2))), (18, .d (.val (.int .i64 z0_0))), (152, .d (.val (.bool false)))], [(3, .av (.d (eGLine a0))), (4, .av (.d (eGTx a1))), (5, .av (.d (eGTx a2))), (11, .av (.d (eGLine y9.1))), (14, .av (.d (eGTx y24.1)))], []⟩) id hb0 (.keep rfl (.keep rfl (.keep rfl (.keep rfl (.keep rfl (.keep rfl (.keep rfl (.keep rfl (.keep rfl (.keep rfl (.keep rfl .nil))))))))))) (.keep rfl (.keep rfl (.keep rfl (.keep rfl (.keep rfl .nil))))) rfl (by rfl) ?_
       exact jq
     refine aq_then ?_
     refine aw_cond rfl (fun hc50 => ?_) (fun hc50 => ?_)
     · replace h := ite_t hc50 h
       refine aw_rs ?_
       refine .as rfl (by rfl) ?_
       refine .nil (aq_then ?_)
       refine aw_ret ?_
       refine aq_block_ret ?_
       refine aq_then_ret ?_
       obtain rfl := Option.some.inj h
       refine aq_weak (s' := ⟨[(6, .d (.val (.bool false)))], [], []⟩) id hb0 (.keep rfl .nil) .nil rfl (by rfl) ?_
       exact jq
     replace h := ite_f hc50 h
     refine aw_skip ?_
     refine aq_block ?_
     refine aq_then ?_
     refine aw_r ?_
     refine .mv rfl (by rfl) ?_
     refine .v (f_binI (by rfl) rfl (by rfl)) rfl (.c rfl (.c rfl .nil)) .nil ?_
     refine .as rfl (by rfl) ?_
     refine .nil ?_
     obtain rfl := Option.some.inj h
     refine aq_weak (s' := ⟨[(3, .ptr 3 0 []), (4, .ptr 4 0 []), (5, .ptr 5 0 []), (7, .d (.val (.bool y1))), (11, .ptr 11 0 []), (12, .d (eL24 y9.2.1)), (13, .d (.val (.int .i64 y9.2.2))), (14, .ptr 14 0 []), (15, .d (.val (.bool y24.2))), (18, .d (.val (.int .i64 (IntKind.i64.wrap (z0_0 + (1 : Int))))))], [(3, .av (.d (eGLine a0))), (4, .av (.d (eGTx a1))), (5, .av (.d (eGTx a2))), (11, .av (.d (eGLine y9.1))), (14, .av (.d (eGTx y24.1)))], []⟩) id hb0 (.keep rfl (.keep rfl (.keep rfl (.keep rfl (.keep rfl (.keep rfl (.keep rfl (.keep rfl (.keep rfl (.keep rfl .nil)))))))))) (.keep rfl (.keep rfl (.keep rfl (.keep rfl (.keep rfl .nil))))) rfl (by rfl) ?_
     exact jq
   replace h := ite_f hc35 h
   refine aw_exit ?_
   refine aq_then_exit ?_
   obtain rfl := Option.some.inj h
   refine aq_weak (s' := ⟨[(4, .ptr 4 0 []), (5, .ptr 5 0 []), (7, .d (.val (.bool y1))), (11, .ptr 11 0 []), (12, .d (eL24 y9.2.1)), (13, .d (.val (.int .i64 y9.2.2))), (14, .ptr 14 0 []), (15, .d (.val (.bool y24.2)))], [(4, .av (.d (eGTx a1))), (5, .av (.d (eGTx a2))), (11, .av (.d (eGLine y9.1))), (14, .av (.d (eGTx y24.1)))], []⟩) id hb0 (.keep rfl (.keep rfl (.keep rfl (.keep rfl (.keep rfl (.keep rfl (.keep rfl (.keep rfl .nil)))))))) (.keep rfl (.keep rfl (.keep rfl (.keep rfl .nil)))) rfl (by rfl) ?_
   exact jq
 rcases o52 with j52 | j52
 · replace h := elim_l h
   refine aq_block_exit ?_
   refine aq_then ?_
   refine aw_seq ?_
   obtain ⟨o63, ho64, h⟩ := bind_some h
   refine aw_join (.normal) ⟨[(6, .d (.val (.bool o63)))], [], []⟩ ?_ ?_
   · replace h := ho64
     refine aw_r ?_
     refine .mv rfl (by rfl) ?_
     refine .mv rfl (by rfl) ?_
     rcases Bool.eq_false_or_eq_true y1 with hc54 | hc54
     · replace h := ite_t hc54 h
       refine .gv (f_move (by rfl)) rfl rfl rfl hc54 (.c rfl .nil) .nil ?_
       refine .gv (f_binI (by rfl) rfl (by rfl)) rfl rfl rfl hc54 (.c rfl (.c rfl .nil)) .nil ?_
       refine .v (f_pick_true (by rfl) hc54) rfl (.c rfl (.c rfl .nil)) .nil ?_
       refine .mv rfl (by rfl) ?_
       rcases Bool.eq_false_or_eq_true (y9.2.2 == (0 : Int)) with hc55 | hc55
       · replace h := ite_t hc55 h
         refine .gv (f_move (by rfl)) rfl rfl rfl hc55 (.c rfl .nil) .nil ?_
         refine .v (f_pick_true (by rfl) hc55) rfl (.c rfl (.c rfl .nil)) .nil ?_
         refine .mv rfl (by rfl) ?_
         rcases Bool.eq_false_or_eq_true y24.2 with hc56 | hc56
         · replace h := ite_t hc56 h
           refine .gv (f_load (n := 0) (o := 14) (off := 0) (p := []) (c := .d (eGTx y24.1)) (z := .d (eGTx y24.1)) (by rfl) rfl ty36 (by rfl)) rfl rfl rfl hc56 (.c rfl .nil) (.cons rfl .nil) ?_
           refine .gv (f_load (n := 0) (o := 5) (off := 0) (p := []) (c := .d (eGTx a2)) (z := .d (eGTx a2)) (by rfl) rfl ty36 (by rfl)) rfl rfl rfl hc56 (.c rfl .nil) (.cons rfl .nil) ?_
           refine .gv (f_eqlT (by rfl) (fit36 _) (fit36 _) (by rfl) (by rfl) gd36 (eq_eGTx _ _)) rfl rfl rfl hc56 (.c rfl (.c rfl .nil)) .nil ?_
           refine .v (f_pick_true (by rfl) hc56) rfl (.c rfl (.c rfl .nil)) .nil ?_
           refine .mv rfl (by rfl) ?_
           rcases Bool.eq_false_or_eq_true (decide (y24.1 = a2)) with hc57 | hc57
           · replace h := ite_t hc57 h
             refine .gv (f_move (by rfl)) rfl rfl rfl hc57 (.c rfl .nil) .nil ?_
             refine .gv (f_load (n := 0) (o := 4) (off := 0) (p := []) (c := .d (eGTx a1)) (z := .d (eGTx a1)) (by rfl) rfl ty36 (by rfl)) rfl rfl rfl hc57 (.c rfl .nil) (.cons rfl .nil) ?_
             refine .gw (f_buildS (xs := [(0, .d (eGTx a1))]) (z := (.st [(eA22 (List.replicate 32 (0 : Int))), (eA22 (List.replicate 32 (0 : Int))), (.val (.int .u64 (0 : Int))), (.val (.int .u64 (0 : Int))), (.val (.int .u64 (0 : Int))), (eA22 (List.replicate 32 (0 : Int)))])) (zs := (([a1] : List GTx)).map eGTx) 1075 (by rfl) el24 zel24 (by rfl) (by decide) (by decide) rfl (by rfl) ⟨_, _, _, rfl, pl24_0, rfl, rfl, trivial⟩ (by rfl)) rfl rfl rfl hc57 (.c rfl .nil) .nil (.cons rfl .nil) ?_
             obtain ⟨y58, hy59, h⟩ := bind_some h
             refine .gw (f_callH0 (xs := [.d (eL24 y9.2.1), .slc 1075 0 ((([a1] : List GTx)).length) 99]) (r := .d (.val (.bool y58))) (hr := []) (fun i => i) [(1075, (.arr 99 ((([a1] : List GTx)).length) ((([a1] : List GTx)).map eGTx)))] hgl (by rfl) (cal_f en20) rfl (by rfl) (by rfl) (by rfl) (by rfl) (by rfl) (.cons (.same _) (.cons (.whole (.head _)) .nil)) rfl rfl (flat_val) trivial (F20_beadrollref19_SameTxs_ok hy59)) rfl rfl rfl hc57 (.c rfl (.c rfl .nil)) (.cons rfl .nil) .nil ?_
             refine .v (f_pick_true (by rfl) hc57) rfl (.c rfl (.c rfl .nil)) .nil ?_
             refine .mv rfl (by rfl) ?_
             rcases Bool.eq_false_or_eq_true y58 with hc60 | hc60
             · replace h := ite_t hc60 h
               refine .gv (f_load (n := 0) (o := 11) (off := 0) (p := []) (c := .d (eGLine y9.1)) (z := .d (eGLine y9.1)) (by rfl) rfl ty26 (by rfl)) rfl rfl rfl hc60 (.c rfl .nil) (.cons rfl .nil) ?_
               obtain ⟨y61, hy62, h⟩ := bind_some h
               refine .gv (f_callP hgl (by rfl) en18 rfl (by rfl) (by rfl) (by rfl) (F18_queue_Check_ok hy62)) rfl rfl rfl hc60 (.c rfl .nil) .nil ?_
               refine .gv (f_binI (by rfl) rfl (by rfl)) rfl rfl rfl hc60 (.c rfl (.c rfl .nil)) .nil ?_
               refine .v (f_pick_true (by rfl) hc60) rfl (.c rfl (.c rfl .nil)) .nil ?_
               refine .as rfl (by rfl) ?_
               refine .nil ?_
               obtain rfl := Option.some.inj h
               refine aq_weak (s' := ⟨[(6, .d (.val (.bool (y61 == (0 : Int)))))], [], []⟩) id hb0 (.keep rfl .nil) .nil rfl (by rfl) ?_
               exact jq
             replace h := ite_f hc60 h
             refine .off rfl rfl rfl hc60 rfl (by rfl) ?_
             refine .off rfl rfl rfl hc60 rfl (by rfl) ?_
             refine .off rfl rfl rfl hc60 rfl (by rfl) ?_
             refine .v (f_pick_false (by rfl) hc60) rfl (.c rfl (.c rfl .nil)) .nil ?_
             refine .as rfl (by rfl) ?_
             refine .nil ?_
             obtain rfl := Option.some.inj h
             refine aq_weak (s' := ⟨[(6, .d (.val (.bool false)))], [], []⟩) id hb0 (.keep rfl .nil) .nil rfl (by rfl) ?_
             exact jq
           replace h := ite_f hc57 h
           refine .off rfl rfl rfl hc57 rfl (by rfl) ?_
           refine .off rfl rfl rfl hc57 rfl (by rfl) ?_
           refine .off rfl rfl rfl hc57 rfl (by rfl) ?_
           refine .off rfl rfl rfl hc57 rfl (by rfl) ?_
           refine .v (f_pick_false (by rfl) hc57) rfl (.c rfl (.c rfl .nil)) .nil ?_
           refine .mv rfl (by rfl) ?_
           refine .off rfl rfl rfl rfl rfl (by rfl) ?_
           refine .off rfl rfl rfl rfl rfl (by rfl) ?_
           refine .off rfl rfl rfl rfl rfl (by rfl) ?_
           refine .v (f_pick_false (by rfl) rfl) rfl (.c rfl (.c rfl .nil)) .nil ?_
           refine .as rfl (by rfl) ?_
           refine .nil ?_
           obtain rfl := Option.some.inj h
           refine aq_weak (s' := ⟨[(6, .d (.val (.bool false)))], [], []⟩) id hb0 (.keep rfl .nil) .nil rfl (by rfl) ?_
           exact jq
         replace h := ite_f hc56 h
         refine .off rfl rfl rfl hc56 rfl (by rfl) ?_
         refine .off rfl rfl rfl hc56 rfl (by rfl) ?_
         refine .off rfl rfl rfl hc56 rfl (by rfl) ?_
         refine .v (f_pick_false (by rfl) hc56) rfl (.c rfl (.c rfl .nil)) .nil ?_
         refine .mv rfl (by rfl) ?_
         refine .off rfl rfl rfl rfl rfl (by rfl) ?_
         refine .off rfl rfl rfl rfl rfl (by rfl) ?_
         refine .off rfl rfl rfl rfl rfl (by rfl) ?_
         refine .off rfl rfl rfl rfl rfl (by rfl) ?_
         refine .v (f_pick_false (by rfl) rfl) rfl (.c rfl (.c rfl .nil)) .nil ?_
         refine .mv rfl (by rfl) ?_
         refine .off rfl rfl rfl rfl rfl (by rfl) ?_
         refine .off rfl rfl rfl rfl rfl (by rfl) ?_
         refine .off rfl rfl rfl rfl rfl (by rfl) ?_
         refine .v (f_pick_false (by rfl) rfl) rfl (.c rfl (.c rfl .nil)) .nil ?_
         refine .as rfl (by rfl) ?_
         refine .nil ?_
         obtain rfl := Option.some.inj h
         refine aq_weak (s' := ⟨[(6, .d (.val (.bool false)))], [], []⟩) id hb0 (.keep rfl .nil) .nil rfl (by rfl) ?_
         exact jq
       replace h := ite_f hc55 h
       refine .off rfl rfl rfl hc55 rfl (by rfl) ?_
       refine .v (f_pick_false (by rfl) hc55) rfl (.c rfl (.c rfl .nil)) .nil ?_
       refine .mv rfl (by rfl) ?_
       refine .off rfl rfl rfl rfl rfl (by rfl) ?_
       refine .off rfl rfl rfl rfl rfl (by rfl) ?_
       refine .off rfl rfl rfl rfl rfl (by rfl) ?_
       refine .v (f_pick_false (by rfl) rfl) rfl (.c rfl (.c rfl .nil)) .nil ?_
       refine .mv rfl (by rfl) ?_
       refine .off rfl rfl rfl rfl rfl (by rfl) ?_
       refine .off rfl rfl rfl rfl rfl (by rfl) ?_
       refine .off rfl rfl rfl rfl rfl (by rfl) ?_
       refine .off rfl rfl rfl rfl rfl (by rfl) ?_
       refine .v (f_pick_false (by rfl) rfl) rfl (.c rfl (.c rfl .nil)) .nil ?_
       refine .mv rfl (by rfl) ?_
       refine .off rfl rfl rfl rfl rfl (by rfl) ?_
       refine .off rfl rfl rfl rfl rfl (by rfl) ?_
       refine .off rfl rfl rfl rfl rfl (by rfl) ?_
       refine .v (f_pick_false (by rfl) rfl) rfl (.c rfl (.c rfl .nil)) .nil ?_
       refine .as rfl (by rfl) ?_
       refine .nil ?_
       obtain rfl := Option.some.inj h
       refine aq_weak (s' := ⟨[(6, .d (.val (.bool false)))], [], []⟩) id hb0 (.keep rfl .nil) .nil rfl (by rfl) ?_
       exact jq
     replace h := ite_f hc54 h
     refine .off rfl rfl rfl hc54 rfl (by rfl) ?_
     refine .off rfl rfl rfl hc54 rfl (by rfl) ?_
     refine .v (f_pick_false (by rfl) hc54) rfl (.c rfl (.c rfl .nil)) .nil ?_
     refine .mv rfl (by rfl) ?_
     refine .off rfl rfl rfl rfl rfl (by rfl) ?_
     refine .v (f_pick_false (by rfl) rfl) rfl (.c rfl (.c rfl .nil)) .nil ?_
     refine .mv rfl (by rfl) ?_
     refine .off rfl rfl rfl rfl rfl (by rfl) ?_
     refine .off rfl rfl rfl rfl rfl (by rfl) ?_
     refine .off rfl rfl rfl rfl rfl (by rfl) ?_
     refine .v (f_pick_false (by rfl) rfl) rfl (.c rfl (.c rfl .nil)) .nil ?_
     refine .mv rfl (by rfl) ?_
     refine .off rfl rfl rfl rfl rfl (by rfl) ?_
     refine .off rfl rfl rfl rfl rfl (by rfl) ?_
     refine .off rfl rfl rfl rfl rfl (by rfl) ?_
     refine .off rfl rfl rfl rfl rfl (by rfl) ?_
     refine .v (f_pick_false (by rfl) rfl) rfl (.c rfl (.c rfl .nil)) .nil ?_
     refine .mv rfl (by rfl) ?_
     refine .off rfl rfl rfl rfl rfl (by rfl) ?_
     refine .off rfl rfl rfl rfl rfl (by rfl) ?_
     refine .off rfl rfl rfl rfl rfl (by rfl) ?_
     refine .v (f_pick_false (by rfl) rfl) rfl (.c rfl (.c rfl .nil)) .nil ?_
     refine .as rfl (by rfl) ?_
     refine .nil ?_
     obtain rfl := Option.some.inj h
     refine aq_weak (s' := ⟨[(6, .d (.val (.bool false)))], [], []⟩) id hb0 (.keep rfl .nil) .nil rfl (by rfl) ?_
     exact jq
   refine aq_then ?_
   refine aw_ret ?_
   obtain rfl := Option.some.inj h
   exact aq_finp hb0 rfl (.tmp rfl (by rfl) .nil) (by rfl) rfl ⟨rfl, rfl⟩
 replace h := elim_r h
 refine aq_block_ret ?_
 refine aq_then_ret ?_
 obtain rfl := Option.some.inj h
 exact aq_finp hb0 rfl (.tmp rfl (by rfl) .nil) (by rfl) rfl ⟨rfl, rfl⟩

/- 5: beadroll/beadrolllaw19.QueueNames -/
def F5_beadrolllaw19_QueueNames (n : Nat)  : Option (Bool) :=
  ((F35_beadrolllaw19_line n ).bind fun (y1 : GLine) => ((F36_beadrolllaw19_one n (4 : Int) (1 : Int)).bind fun (y3 : GTx) => ((F34_queue_Put n y1 y3).bind fun (y5 : GLine × (List GTx) × Int) => ((F35_beadrolllaw19_line n ).bind fun (y7 : GLine) => ((F36_beadrolllaw19_one n (4 : Int) (2 : Int)).bind fun (y9 : GTx) => ((F34_queue_Put n y7 y9).bind fun (y11 : GLine × (List GTx) × Int) => ((F35_beadrolllaw19_line n ).bind fun (y13 : GLine) => ((F37_tx_Sign n (⟨((List.replicate 32 (0 : Int)).set 0 (1 : Int)), (List.replicate 32 (0 : Int)), (0 : Int), (0 : Int), (0 : Int), (List.replicate 32 (0 : Int))⟩ : GTx)).bind fun (y15 : GTx) => ((F34_queue_Put n y13 y15).bind fun (y17 : GLine × (List GTx) × Int) => ((F35_beadrolllaw19_line n ).bind fun (y19 : GLine) => ((F36_beadrolllaw19_one n (5 : Int) (0 : Int)).bind fun (y21 : GTx) => ((F34_queue_Put n y19 y21).bind fun (y23 : GLine × (List GTx) × Int) => ((F16_queue_Ready n y23.1 (3 : Int)).bind fun (y25 : (List GTx) × Int) => ((((F15_beadrolllaw19_alive n ).bind fun (y27 : Bool) => (if y27 = true then (if (y5.2.2 == (190 : Int)) = true then (if (y11.2.2 == (0 : Int)) = true then (if (((y11.1.Txs).length : Int) == (3 : Int)) = true then ((F36_beadrolllaw19_one n (4 : Int) (1 : Int)).bind fun (y33 : GTx) => ((F20_beadrollref19_SameTxs n y11.2.1 ([y33] : List GTx)).bind fun (y35 : Bool) => (if y35 = true then (if (y17.2.2 == (2 : Int)) = true then (if (y23.2.2 == (0 : Int)) = true then (if (((y23.2.1).length : Int) == (0 : Int)) = true then (if (y25.2 == (0 : Int)) = true then (if (((y25.1).length : Int) == (4 : Int)) = true then ((F18_queue_Check n (⟨(List.replicate 32 (0 : Int)), ([(⟨(List.replicate 32 (0 : Int)), (List.replicate 32 (0 : Int)), (0 : Int), (0 : Int), (0 : Int), (List.replicate 32 (0 : Int))⟩ : GTx)] : List GTx)⟩ : GLine)).bind fun (y43 : Int) => some (y43 == (8 : Int))) else some false) else some false) else some false) else some false) else some false) else some false))) else some false) else some false) else some false) else some false))).bind fun (o45 : Bool) => some o45))))))))))))))
theorem F5_beadrolllaw19_QueueNames_ok {n : Nat}  {r : Bool} (h : F5_beadrolllaw19_QueueNames n  = some r) :
    ACall Tryd.prog GS 5 [] [] (fun r' hp' => r' = .d (.val (.bool r)) ∧ hp' = []) := by
 refine acall_of_body mixed Tryd.func5 rfl (by rfl) ?_
 intro C hro hgl hb0
 unfold F5_beadrolllaw19_QueueNames at h
 refine aw_rs ?_
 refine .as rfl (by rfl) ?_
 refine .nil (aq_then ?_)
 refine aw_rs ?_
 obtain ⟨y1, hy2, h⟩ := bind_some h
 refine .v (f_callP hgl (by rfl) en35 rfl (by rfl) (by rfl) (by rfl) (F35_beadrolllaw19_line_ok hy2)) rfl .nil .nil ?_
 obtain ⟨y3, hy4, h⟩ := bind_some h
 refine .v (f_callP hgl (by rfl) en36 rfl (by rfl) (by rfl) (by rfl) (F36_beadrolllaw19_one_ok hy4)) rfl (.c rfl (.c rfl .nil)) .nil ?_
 obtain ⟨y5, hy6, h⟩ := bind_some h
 refine .v (f_callP hgl (by rfl) en34 rfl (by rfl) (by rfl) (by rfl) (F34_queue_Put_ok hy6)) rfl (.c rfl (.c rfl .nil)) .nil ?_
 refine .mv rfl (by rfl) ?_
 refine .v (f_extract (by rfl) rfl) rfl (.c rfl .nil) .nil ?_
 refine .v (f_extract (by rfl) rfl) rfl (.c rfl .nil) .nil ?_
 refine .v (f_extract (by rfl) rfl) rfl (.c rfl .nil) .nil ?_
 refine .n (f_alloc 1 (by rfl) zrv26) rfl .nil rfl ?_
 refine .s (f_store (n := 0) (o := 1) (off := 0) (p := []) (c := .st [.d (eA22 (List.replicate 32 (0 : Int))), .d (.val (.slice none 0 0))]) (old := .st [.d (eA22 (List.replicate 32 (0 : Int))), .d (.val (.slice none 0 0))]) (z := .d (eGLine y5.1)) (c' := .d (eGLine y5.1)) rfl rfl (by rfl) ty26 (by rfl)) rfl (.c rfl (.c rfl .nil)) (.cons rfl .nil) ?_
 refine .as rfl (by rfl) ?_
 refine .as rfl (by rfl) ?_
 refine .nil (aq_then ?_)
 refine aw_rs ?_
 obtain ⟨y7, hy8, h⟩ := bind_some h
 refine .v (f_callP hgl (by rfl) en35 rfl (by rfl) (by rfl) (by rfl) (F35_beadrolllaw19_line_ok hy8)) rfl .nil .nil ?_
 obtain ⟨y9, hy10, h⟩ := bind_some h
 refine .v (f_callP hgl (by rfl) en36 rfl (by rfl) (by rfl) (by rfl) (F36_beadrolllaw19_one_ok hy10)) rfl (.c rfl (.c rfl .nil)) .nil ?_
 obtain ⟨y11, hy12, h⟩ := bind_some h
 refine .v (f_callP hgl (by rfl) en34 rfl (by rfl) (by rfl) (by rfl) (F34_queue_Put_ok hy12)) rfl (.c rfl (.c rfl .nil)) .nil ?_
 refine .mv rfl (by rfl) ?_
 refine .v (f_extract (by rfl) rfl) rfl (.c rfl .nil) .nil ?_
 refine .v (f_extract (by rfl) rfl) rfl (.c rfl .nil) .nil ?_
 refine .v (f_extract (by rfl) rfl) rfl (.c rfl .nil) .nil ?_
 refine .n (f_alloc 4 (by rfl) zrv26) rfl .nil rfl ?_
 refine .s (f_store (n := 0) (o := 4) (off := 0) (p := []) (c := .st [.d (eA22 (List.replicate 32 (0 : Int))), .d (.val (.slice none 0 0))]) (old := .st [.d (eA22 (List.replicate 32 (0 : Int))), .d (.val (.slice none 0 0))]) (z := .d (eGLine y11.1)) (c' := .d (eGLine y11.1)) rfl rfl (by rfl) ty26 (by rfl)) rfl (.c rfl (.c rfl .nil)) (.cons rfl .nil) ?_
 refine .as rfl (by rfl) ?_
 refine .as rfl (by rfl) ?_
 refine .nil (aq_then ?_)
 refine aw_rs ?_
 obtain ⟨y13, hy14, h⟩ := bind_some h
 refine .v (f_callP hgl (by rfl) en35 rfl (by rfl) (by rfl) (by rfl) (F35_beadrolllaw19_line_ok hy14)) rfl .nil .nil ?_
 refine .v (f_build (xs := [(0, .d (.val (.int .u8 (1 : Int))))]) (z' := .d (eA22 ((List.replicate 32 (0 : Int)).set 0 (1 : Int)))) (by rfl) zr23 ag23 rfl (by rfl) ⟨_, _, _, rfl, pl23_0, rfl, rfl, trivial⟩ (by rfl) (by rfl)) rfl (.c rfl .nil) .nil ?_
 refine .v (f_build (xs := [(0, .d (eA22 ((List.replicate 32 (0 : Int)).set 0 (1 : Int))))]) (z' := .d (eGTx (⟨((List.replicate 32 (0 : Int)).set 0 (1 : Int)), (List.replicate 32 (0 : Int)), (0 : Int), (0 : Int), (0 : Int), (List.replicate 32 (0 : Int))⟩ : GTx))) (by rfl) zr36 ag36 rfl (by rfl) ⟨_, _, _, rfl, pl36_0, rfl, rfl, trivial⟩ (by rfl) (by rfl)) rfl (.c rfl .nil) .nil ?_
 obtain ⟨y15, hy16, h⟩ := bind_some h
 refine .v (f_callP hgl (by rfl) en37 rfl (by rfl) (by rfl) (by rfl) (F37_tx_Sign_ok hy16)) rfl (.c rfl .nil) .nil ?_
 obtain ⟨y17, hy18, h⟩ := bind_some h
 refine .v (f_callP hgl (by rfl) en34 rfl (by rfl) (by rfl) (by rfl) (F34_queue_Put_ok hy18)) rfl (.c rfl (.c rfl .nil)) .nil ?_
 refine .mv rfl (by rfl) ?_
 refine .v (f_extract (by rfl) rfl) rfl (.c rfl .nil) .nil ?_
 refine .v (f_extract (by rfl) rfl) rfl (.c rfl .nil) .nil ?_
 refine .v (f_extract (by rfl) rfl) rfl (.c rfl .nil) .nil ?_
 refine .n (f_alloc 7 (by rfl) zrv26) rfl .nil rfl ?_
 refine .s (f_store (n := 0) (o := 7) (off := 0) (p := []) (c := .st [.d (eA22 (List.replicate 32 (0 : Int))), .d (.val (.slice none 0 0))]) (old := .st [.d (eA22 (List.replicate 32 (0 : Int))), .d (.val (.slice none 0 0))]) (z := .d (eGLine y17.1)) (c' := .d (eGLine y17.1)) rfl rfl (by rfl) ty26 (by rfl)) rfl (.c rfl (.c rfl .nil)) (.cons rfl .nil) ?_
 refine .as rfl (by rfl) ?_
 refine .as rfl (by rfl) ?_
 refine .nil (aq_then ?_)
 refine aw_rs ?_
 obtain ⟨y19, hy20, h⟩ := bind_some h
 refine .v (f_callP hgl (by rfl) en35 rfl (by rfl) (by rfl) (by rfl) (F35_beadrolllaw19_line_ok hy20)) rfl .nil .nil ?_
 obtain ⟨y21, hy22, h⟩ := bind_some h
 refine .v (f_callP hgl (by rfl) en36 rfl (by rfl) (by rfl) (by rfl) (F36_beadrolllaw19_one_ok hy22)) rfl (.c rfl (.c rfl .nil)) .nil ?_
 obtain ⟨y23, hy24, h⟩ := bind_some h
 refine .v (f_callP hgl (by rfl) en34 rfl (by rfl) (by rfl) (by rfl) (F34_queue_Put_ok hy24)) rfl (.c rfl (.c rfl .nil)) .nil ?_
 refine .mv rfl (by rfl) ?_
 refine .v (f_extract (by rfl) rfl) rfl (.c rfl .nil) .nil ?_
 refine .v (f_extract (by rfl) rfl) rfl (.c rfl .nil) .nil ?_
 refine .v (f_extract (by rfl) rfl) rfl (.c rfl .nil) .nil ?_
 refine .n (f_alloc 10 (by rfl) zrv26) rfl .nil rfl ?_
 refine .s (f_store (n := 0) (o := 10) (off := 0) (p := []) (c := .st [.d (eA22 (List.replicate 32 (0 : Int))), .d (.val (.slice none 0 0))]) (old := .st [.d (eA22 (List.replicate 32 (0 : Int))), .d (.val (.slice none 0 0))]) (z := .d (eGLine y23.1)) (c' := .d (eGLine y23.1)) rfl rfl (by rfl) ty26 (by rfl)) rfl (.c rfl (.c rfl .nil)) (.cons rfl .nil) ?_
 refine .as rfl (by rfl) ?_
 refine .as rfl (by rfl) ?_
 refine .nil (aq_then ?_)
 refine aw_rs ?_
 refine .v (f_load (n := 0) (o := 10) (off := 0) (p := []) (c := .d (eGLine y23.1)) (z := .d (eGLine y23.1)) (by rfl) rfl ty26 (by rfl)) rfl (.c rfl .nil) (.cons rfl .nil) ?_
 obtain ⟨y25, hy26, h⟩ := bind_some h
 refine .v (f_callP hgl (by rfl) en16 rfl (by rfl) (by rfl) (by rfl) (F16_queue_Ready_ok hy26)) rfl (.c rfl (.c rfl .nil)) .nil ?_
 refine .mv rfl (by rfl) ?_
 refine .v (f_extract (by rfl) rfl) rfl (.c rfl .nil) .nil ?_
 refine .v (f_extract (by rfl) rfl) rfl (.c rfl .nil) .nil ?_
 refine .as rfl (by rfl) ?_
 refine .as rfl (by rfl) ?_
 refine .nil (aq_then ?_)
 refine aw_seq ?_
 obtain ⟨o45, ho46, h⟩ := bind_some h
 refine aw_join (.normal) ⟨[(0, .d (.val (.bool o45)))], [], []⟩ ?_ ?_
 · replace h := ho46
   refine aw_r ?_
   refine .mv rfl (by rfl) ?_
   obtain ⟨y27, hy28, h⟩ := bind_some h
   refine .gv (f_callP hgl (by rfl) en15 rfl (by rfl) (by rfl) (by rfl) (F15_beadrolllaw19_alive_ok hy28)) rfl rfl rfl rfl .nil .nil ?_
   refine .v (f_pick_true (by rfl) rfl) rfl (.c rfl (.c rfl .nil)) .nil ?_
   refine .mv rfl (by rfl) ?_
   rcases Bool.eq_false_or_eq_true y27 with hc29 | hc29
   · replace h := ite_t hc29 h
     refine .gv (f_move (by rfl)) rfl rfl rfl hc29 (.c rfl .nil) .nil ?_
     refine .gv (f_binI (by rfl) rfl (by rfl)) rfl rfl rfl hc29 (.c rfl (.c rfl .nil)) .nil ?_
     refine .v (f_pick_true (by rfl) hc29) rfl (.c rfl (.c rfl .nil)) .nil ?_
     refine .mv rfl (by rfl) ?_
     rcases Bool.eq_false_or_eq_true (y5.2.2 == (190 : Int)) with hc30 | hc30
     · replace h := ite_t hc30 h
       refine .gv (f_move (by rfl)) rfl rfl rfl hc30 (.c rfl .nil) .nil ?_
       refine .gv (f_binI (by rfl) rfl (by rfl)) rfl rfl rfl hc30 (.c rfl (.c rfl .nil)) .nil ?_
       refine .v (f_pick_true (by rfl) hc30) rfl (.c rfl (.c rfl .nil)) .nil ?_
       refine .mv rfl (by rfl) ?_
       rcases Bool.eq_false_or_eq_true (y11.2.2 == (0 : Int)) with hc31 | hc31
       · replace h := ite_t hc31 h
         refine .gv (f_fieldAddr (n := 32) (by rfl) fl26_1 (by decide)) rfl rfl rfl hc31 (.c rfl .nil) .nil ?_
         refine .gv (f_load (n := 0) (o := 4) (off := (0 + 32)) (p := [1]) (c := .d (eGLine y11.1)) (z := .d (eL24 y11.1.Txs)) (by rfl) rfl ty24 (by rfl)) rfl rfl rfl hc31 (.c rfl .nil) (.cons rfl .nil) ?_
         refine .gv (f_lenD (n := (y11.1.Txs).length) (by rfl) sl24 rfl (by simp)) rfl rfl rfl hc31 (.c rfl .nil) .nil ?_
         refine .gv (f_binI (by rfl) rfl (by rfl)) rfl rfl rfl hc31 (.c rfl (.c rfl .nil)) .nil ?_
         refine .v (f_pick_true (by rfl) hc31) rfl (.c rfl (.c rfl .nil)) .nil ?_
         refine .mv rfl (by rfl) ?_
         rcases Bool.eq_false_or_eq_true (((y11.1.Txs).length : Int) == (3 : Int)) with hc32 | hc32
         · replace h := ite_t hc32 h
           refine .gv (f_move (by rfl)) rfl rfl rfl hc32 (.c rfl .nil) .nil ?_
           obtain ⟨y33, hy34, h⟩ := bind_some h
           refine .gv (f_callP hgl (by rfl) en36 rfl (by rfl) (by rfl) (by rfl) (F36_beadrolllaw19_one_ok hy34)) rfl rfl rfl hc32 (.c rfl (.c rfl .nil)) .nil ?_
           refine .gw (f_buildS (xs := [(0, .d (eGTx y33))]) (z := (.st [(eA22 (List.replicate 32 (0 : Int))), (eA22 (List.replicate 32 (0 : Int))), (.val (.int .u64 (0 : Int))), (.val (.int .u64 (0 : Int))), (.val (.int .u64 (0 : Int))), (eA22 (List.replicate 32 (0 : Int)))])) (zs := (([y33] : List GTx)).map eGTx) 1076 (by rfl) el24 zel24 (by rfl) (by decide) (by decide) rfl (by rfl) ⟨_, _, _, rfl, pl24_0, rfl, rfl, trivial⟩ (by rfl)) rfl rfl rfl hc32 (.c rfl .nil) .nil (.cons rfl .nil) ?_
           obtain ⟨y35, hy36, h⟩ := bind_some h
           refine .gw (f_callH0 (xs := [.d (eL24 y11.2.1), .slc 1076 0 ((([y33] : List GTx)).length) 99]) (r := .d (.val (.bool y35))) (hr := []) (fun i => i) [(1076, (.arr 99 ((([y33] : List GTx)).length) ((([y33] : List GTx)).map eGTx)))] hgl (by rfl) (cal_f en20) rfl (by rfl) (by rfl) (by rfl) (by rfl) (by rfl) (.cons (.same _) (.cons (.whole (.head _)) .nil)) rfl rfl (flat_val) trivial (F20_beadrollref19_SameTxs_ok hy36)) rfl rfl rfl hc32 (.c rfl (.c rfl .nil)) (.cons rfl .nil) .nil ?_
           refine .v (f_pick_true (by rfl) hc32) rfl (.c rfl (.c rfl .nil)) .nil ?_
           refine .mv rfl (by rfl) ?_
           rcases Bool.eq_false_or_eq_true y35 with hc37 | hc37
           · replace h := ite_t hc37 h
             refine .gv (f_move (by rfl)) rfl rfl rfl hc37 (.c rfl .nil) .nil ?_
             refine .gv (f_binI (by rfl) rfl (by rfl)) rfl rfl rfl hc37 (.c rfl (.c rfl .nil)) .nil ?_
             refine .v (f_pick_true (by rfl) hc37) rfl (.c rfl (.c rfl .nil)) .nil ?_
             refine .mv rfl (by rfl) ?_
             rcases Bool.eq_false_or_eq_true (y17.2.2 == (2 : Int)) with hc38 | hc38
             · replace h := ite_t hc38 h
               refine .gv (f_move (by rfl)) rfl rfl rfl hc38 (.c rfl .nil) .nil ?_
               refine .gv (f_binI (by rfl) rfl (by rfl)) rfl rfl rfl hc38 (.c rfl (.c rfl .nil)) .nil ?_
               refine .v (f_pick_true (by rfl) hc38) rfl (.c rfl (.c rfl .nil)) .nil ?_
               refine .mv rfl (by rfl) ?_
               rcases Bool.eq_false_or_eq_true (y23.2.2 == (0 : Int)) with hc39 | hc39
               · replace h := ite_t hc39 h
                 refine .gv (f_move (by rfl)) rfl rfl rfl hc39 (.c rfl .nil) .nil ?_
                 refine .gv (f_lenD (n := (y23.2.1).length) (by rfl) sl24 rfl (by simp)) rfl rfl rfl hc39 (.c rfl .nil) .nil ?_
                 refine .gv (f_binI (by rfl) rfl (by rfl)) rfl rfl rfl hc39 (.c rfl (.c rfl .nil)) .nil ?_
                 refine .v (f_pick_true (by rfl) hc39) rfl (.c rfl (.c rfl .nil)) .nil ?_
                 refine .mv rfl (by rfl) ?_
                 rcases Bool.eq_false_or_eq_true (((y23.2.1).length : Int) == (0 : Int)) with hc40 | hc40
                 · replace h := ite_t hc40 h
                   refine .gv (f_move (by rfl)) rfl rfl rfl hc40 (.c rfl .nil) .nil ?_
                   refine .gv (f_binI (by rfl) rfl (by rfl)) rfl rfl rfl hc40 (.c rfl (.c rfl .nil)) .nil ?_
                   refine .v (f_pick_true (by rfl) hc40) rfl (.c rfl (.c rfl .nil)) .nil ?_
                   refine .mv rfl (by rfl) ?_
                   rcases Bool.eq_false_or_eq_true (y25.2 == (0 : Int)) with hc41 | hc41
                   · replace h := ite_t hc41 h
                     refine .gv (f_move (by rfl)) rfl rfl rfl hc41 (.c rfl .nil) .nil ?_
                     refine .gv (f_lenD (n := (y25.1).length) (by rfl) sl24 rfl (by simp)) rfl rfl rfl hc41 (.c rfl .nil) .nil ?_
                     refine .gv (f_binI (by rfl) rfl (by rfl)) rfl rfl rfl hc41 (.c rfl (.c rfl .nil)) .nil ?_
                     refine .v (f_pick_true (by rfl) hc41) rfl (.c rfl (.c rfl .nil)) .nil ?_
                     refine .mv rfl (by rfl) ?_
                     rcases Bool.eq_false_or_eq_true (((y25.1).length : Int) == (4 : Int)) with hc42 | hc42
                     · replace h := ite_t hc42 h
                       refine .gv (f_build (xs := []) (z' := .d (eGTx (⟨(List.replicate 32 (0 : Int)), (List.replicate 32 (0 : Int)), (0 : Int), (0 : Int), (0 : Int), (List.replicate 32 (0 : Int))⟩ : GTx))) (by rfl) zr36 ag36 rfl (by rfl) trivial (by rfl) (by rfl)) rfl rfl rfl hc42 .nil .nil ?_
                       refine .gw (f_buildS (xs := [(0, .d (eGTx (⟨(List.replicate 32 (0 : Int)), (List.replicate 32 (0 : Int)), (0 : Int), (0 : Int), (0 : Int), (List.replicate 32 (0 : Int))⟩ : GTx)))]) (z := (.st [(eA22 (List.replicate 32 (0 : Int))), (eA22 (List.replicate 32 (0 : Int))), (.val (.int .u64 (0 : Int))), (.val (.int .u64 (0 : Int))), (.val (.int .u64 (0 : Int))), (eA22 (List.replicate 32 (0 : Int)))])) (zs := (([(⟨(List.replicate 32 (0 : Int)), (List.replicate 32 (0 : Int)), (0 : Int), (0 : Int), (0 : Int), (List.replicate 32 (0 : Int))⟩ : GTx)] : List GTx)).map eGTx) 1077 (by rfl) el24 zel24 (by rfl) (by decide) (by decide) rfl (by rfl) ⟨_, _, _, rfl, pl24_0, rfl, rfl, trivial⟩ (by rfl)) rfl rfl rfl hc42 (.c rfl .nil) .nil (.cons rfl .nil) ?_
                       refine .gv (f_build (xs := [(1, .slc 1077 0 ((([(⟨(List.replicate 32 (0 : Int)), (List.replicate 32 (0 : Int)), (0 : Int), (0 : Int), (0 : Int), (List.replicate 32 (0 : Int))⟩ : GTx)] : List GTx)).length) 99)]) (z' := .st [.d (eA22 (List.replicate 32 (0 : Int))), .slc 1077 0 ((([(⟨(List.replicate 32 (0 : Int)), (List.replicate 32 (0 : Int)), (0 : Int), (0 : Int), (0 : Int), (List.replicate 32 (0 : Int))⟩ : GTx)] : List GTx)).length) 99]) (by rfl) zrv26 ag26 rfl (by rfl) ⟨_, _, _, rfl, pl26_1, rfl, rfl, trivial⟩ (by rfl) (by rfl)) rfl rfl rfl hc42 (.c rfl .nil) .nil ?_
                       obtain ⟨y43, hy44, h⟩ := bind_some h
                       refine .gw (f_callH0 (xs := [.st [.d (eA22 (List.replicate 32 (0 : Int))), .slc 1077 0 ((([(⟨(List.replicate 32 (0 : Int)), (List.replicate 32 (0 : Int)), (0 : Int), (0 : Int), (0 : Int), (List.replicate 32 (0 : Int))⟩ : GTx)] : List GTx)).length) 99]]) (r := .d (.val (.int .i64 y43))) (hr := []) (fun i => i) [(1077, (.arr 99 ((([(⟨(List.replicate 32 (0 : Int)), (List.replicate 32 (0 : Int)), (0 : Int), (0 : Int), (0 : Int), (List.replicate 32 (0 : Int))⟩ : GTx)] : List GTx)).length) ((([(⟨(List.replicate 32 (0 : Int)), (List.replicate 32 (0 : Int)), (0 : Int), (0 : Int), (0 : Int), (List.replicate 32 (0 : Int))⟩ : GTx)] : List GTx)).map eGTx)))] hgl (by rfl) (cal_f en18) rfl (by rfl) (by rfl) (by rfl) (by rfl) (by rfl) (.cons (.st (.cons (.same _) (.cons (.whole (.head _)) .nil))) .nil) rfl rfl (flat_val) trivial (F18_queue_Check_ok hy44)) rfl rfl rfl hc42 (.c rfl .nil) (.cons rfl .nil) .nil ?_
                       refine .gv (f_binI (by rfl) rfl (by rfl)) rfl rfl rfl hc42 (.c rfl (.c rfl .nil)) .nil ?_
                       refine .v (f_pick_true (by rfl) hc42) rfl (.c rfl (.c rfl .nil)) .nil ?_
                       refine .as rfl (by rfl) ?_
                       refine .nil ?_
                       obtain rfl := Option.some.inj h
                       refine aq_weak (s' := ⟨[(0, .d (.val (.bool (y43 == (8 : Int)))))], [], []⟩) id hb0 (.keep rfl .nil) .nil rfl (by rfl) ?_
                       exact jq
                     replace h := ite_f hc42 h
                     refine .off rfl rfl rfl hc42 rfl (by rfl) ?_
                     refine .off rfl rfl rfl hc42 rfl (by rfl) ?_
                     refine .off rfl rfl rfl hc42 rfl (by rfl) ?_
                     refine .off rfl rfl rfl hc42 rfl (by rfl) ?_
                     refine .off rfl rfl rfl hc42 rfl (by rfl) ?_
                     refine .v (f_pick_false (by rfl) hc42) rfl (.c rfl (.c rfl .nil)) .nil ?_
                     refine .as rfl (by rfl) ?_
                     refine .nil ?_
                     obtain rfl := Option.some.inj h
                     refine aq_weak (s' := ⟨[(0, .d (.val (.bool false)))], [], []⟩) id hb0 (.keep rfl .nil) .nil rfl (by rfl) ?_
                     exact jq
                   replace h := ite_f hc41 h
                   refine .off rfl rfl rfl hc41 rfl (by rfl) ?_
                   refine .off rfl rfl rfl hc41 rfl (by rfl) ?_
                   refine .off rfl rfl rfl hc41 rfl (by rfl) ?_
                   refine .v (f_pick_false (by rfl) hc41) rfl (.c rfl (.c rfl .nil)) .nil ?_
                   refine .mv rfl (by rfl) ?_
                   refine .off rfl rfl rfl rfl rfl (by rfl) ?_
                   refine .off rfl rfl rfl rfl rfl (by rfl) ?_
                   refine .off rfl rfl rfl rfl rfl (by rfl) ?_
                   refine .off rfl rfl rfl rfl rfl (by rfl) ?_
                   refine .off rfl rfl rfl rfl rfl (by rfl) ?_
                   refine .v (f_pick_false (by rfl) rfl) rfl (.c rfl (.c rfl .nil)) .nil ?_
                   refine .as rfl (by rfl) ?_
                   refine .nil ?_
                   obtain rfl := Option.some.inj h
                   refine aq_weak (s' := ⟨[(0, .d (.val (.bool false)))], [], []⟩) id hb0 (.keep rfl .nil) .nil rfl (by rfl) ?_
                   exact jq
                 replace h := ite_f hc40 h
                 refine .off rfl rfl rfl hc40 rfl (by rfl) ?_
                 refine .off rfl rfl rfl hc40 rfl (by rfl) ?_
                 refine .v (f_pick_false (by rfl) hc40) rfl (.c rfl (.c rfl .nil)) .nil ?_
                 refine .mv rfl (by rfl) ?_
                 refine .off rfl rfl rfl rfl rfl (by rfl) ?_
                 refine .off rfl rfl rfl rfl rfl (by rfl) ?_
                 refine .off rfl rfl rfl rfl rfl (by rfl) ?_
                 refine .v (f_pick_false (by rfl) rfl) rfl (.c rfl (.c rfl .nil)) .nil ?_
                 refine .mv rfl (by rfl) ?_
                 refine .off rfl rfl rfl rfl rfl (by rfl) ?_
                 refine .off rfl rfl rfl rfl rfl (by rfl) ?_
                 refine .off rfl rfl rfl rfl rfl (by rfl) ?_
                 refine .off rfl rfl rfl rfl rfl (by rfl) ?_
                 refine .off rfl rfl rfl rfl rfl (by rfl) ?_
                 refine .v (f_pick_false (by rfl) rfl) rfl (.c rfl (.c rfl .nil)) .nil ?_
                 refine .as rfl (by rfl) ?_
                 refine .nil ?_
                 obtain rfl := Option.some.inj h
                 refine aq_weak (s' := ⟨[(0, .d (.val (.bool false)))], [], []⟩) id hb0 (.keep rfl .nil) .nil rfl (by rfl) ?_
                 exact jq
               replace h := ite_f hc39 h
               refine .off rfl rfl rfl hc39 rfl (by rfl) ?_
               refine .off rfl rfl rfl hc39 rfl (by rfl) ?_
               refine .off rfl rfl rfl hc39 rfl (by rfl) ?_
               refine .v (f_pick_false (by rfl) hc39) rfl (.c rfl (.c rfl .nil)) .nil ?_
               refine .mv rfl (by rfl) ?_
               refine .off rfl rfl rfl rfl rfl (by rfl) ?_
               refine .off rfl rfl rfl rfl rfl (by rfl) ?_
               refine .v (f_pick_false (by rfl) rfl) rfl (.c rfl (.c rfl .nil)) .nil ?_
               refine .mv rfl (by rfl) ?_
               refine .off rfl rfl rfl rfl rfl (by rfl) ?_
               refine .off rfl rfl rfl rfl rfl (by rfl) ?_
               refine .off rfl rfl rfl rfl rfl (by rfl) ?_
               refine .v (f_pick_false (by rfl) rfl) rfl (.c rfl (.c rfl .nil)) .nil ?_
               refine .mv rfl (by rfl) ?_
               refine .off rfl rfl rfl rfl rfl (by rfl) ?_
               refine .off rfl rfl rfl rfl rfl (by rfl) ?_
               refine .off rfl rfl rfl rfl rfl (by rfl) ?_
               refine .off rfl rfl rfl rfl rfl (by rfl) ?_
               refine .off rfl rfl rfl rfl rfl (by rfl) ?_
               refine .v (f_pick_false (by rfl) rfl) rfl (.c rfl (.c rfl .nil)) .nil ?_
               refine .as rfl (by rfl) ?_
               refine .nil ?_
               obtain rfl := Option.some.inj h
               refine aq_weak (s' := ⟨[(0, .d (.val (.bool false)))], [], []⟩) id hb0 (.keep rfl .nil) .nil rfl (by rfl) ?_
               exact jq
             replace h := ite_f hc38 h
             refine .off rfl rfl rfl hc38 rfl (by rfl) ?_
             refine .off rfl rfl rfl hc38 rfl (by rfl) ?_
             refine .v (f_pick_false (by rfl) hc38) rfl (.c rfl (.c rfl .nil)) .nil ?_
             refine .mv rfl (by rfl) ?_
             refine .off rfl rfl rfl rfl rfl (by rfl) ?_
             refine .off rfl rfl rfl rfl rfl (by rfl) ?_
             refine .off rfl rfl rfl rfl rfl (by rfl) ?_
             refine .v (f_pick_false (by rfl) rfl) rfl (.c rfl (.c rfl .nil)) .nil ?_
             refine .mv rfl (by rfl) ?_
             refine .off rfl rfl rfl rfl rfl (by rfl) ?_
             refine .off rfl rfl rfl rfl rfl (by rfl) ?_
             refine .v (f_pick_false (by rfl) rfl) rfl (.c rfl (.c rfl .nil)) .nil ?_
             refine .mv rfl (by rfl) ?_
             refine .off rfl rfl rfl rfl rfl (by rfl) ?_
             refine .off rfl rfl rfl rfl rfl (by rfl) ?_
             refine .off rfl rfl rfl rfl rfl (by rfl) ?_
             refine .v (f_pick_false (by rfl) rfl) rfl (.c rfl (.c rfl .nil)) .nil ?_
             refine .mv rfl (by rfl) ?_
             refine .off rfl rfl rfl rfl rfl (by rfl) ?_
             refine .off rfl rfl rfl rfl rfl (by rfl) ?_
             refine .off rfl rfl rfl rfl rfl (by rfl) ?_
             refine .off rfl rfl rfl rfl rfl (by rfl) ?_
             refine .off rfl rfl rfl rfl rfl (by rfl) ?_
             refine .v (f_pick_false (by rfl) rfl) rfl (.c rfl (.c rfl .nil)) .nil ?_
             refine .as rfl (by rfl) ?_
             refine .nil ?_
             obtain rfl := Option.some.inj h
             refine aq_weak (s' := ⟨[(0, .d (.val (.bool false)))], [], []⟩) id hb0 (.keep rfl .nil) .nil rfl (by rfl) ?_
             exact jq
           replace h := ite_f hc37 h
           refine .off rfl rfl rfl hc37 rfl (by rfl) ?_
           refine .off rfl rfl rfl hc37 rfl (by rfl) ?_
           refine .v (f_pick_false (by rfl) hc37) rfl (.c rfl (.c rfl .nil)) .nil ?_
           refine .mv rfl (by rfl) ?_
           refine .off rfl rfl rfl rfl rfl (by rfl) ?_
           refine .off rfl rfl rfl rfl rfl (by rfl) ?_
           refine .v (f_pick_false (by rfl) rfl) rfl (.c rfl (.c rfl .nil)) .nil ?_
           refine .mv rfl (by rfl) ?_
           refine .off rfl rfl rfl rfl rfl (by rfl) ?_
           refine .off rfl rfl rfl rfl rfl (by rfl) ?_
           refine .off rfl rfl rfl rfl rfl (by rfl) ?_
           refine .v (f_pick_false (by rfl) rfl) rfl (.c rfl (.c rfl .nil)) .nil ?_
           refine .mv rfl (by rfl) ?_
           refine .off rfl rfl rfl rfl rfl (by rfl) ?_
           refine .off rfl rfl rfl rfl rfl (by rfl) ?_
           refine .v (f_pick_false (by rfl) rfl) rfl (.c rfl (.c rfl .nil)) .nil ?_
           refine .mv rfl (by rfl) ?_
           refine .off rfl rfl rfl rfl rfl (by rfl) ?_
           refine .off rfl rfl rfl rfl rfl (by rfl) ?_
           refine .off rfl rfl rfl rfl rfl (by rfl) ?_
           refine .v (f_pick_false (by rfl) rfl) rfl (.c rfl (.c rfl .nil)) .nil ?_
           refine .mv rfl (by rfl) ?_
           refine .off rfl rfl rfl rfl rfl (by rfl) ?_
           refine .off rfl rfl rfl rfl rfl (by rfl) ?_
           refine .off rfl rfl rfl rfl rfl (by rfl) ?_
           refine .off rfl rfl rfl rfl rfl (by rfl) ?_
           refine .off rfl rfl rfl rfl rfl (by rfl) ?_
           refine .v (f_pick_false (by rfl) rfl) rfl (.c rfl (.c rfl .nil)) .nil ?_
           refine .as rfl (by rfl) ?_
           refine .nil ?_
           obtain rfl := Option.some.inj h
           refine aq_weak (s' := ⟨[(0, .d (.val (.bool false)))], [], []⟩) id hb0 (.keep rfl .nil) .nil rfl (by rfl) ?_
           exact jq
         replace h := ite_f hc32 h
         refine .off rfl rfl rfl hc32 rfl (by rfl) ?_
         refine .off rfl rfl rfl hc32 rfl (by rfl) ?_
         refine .off rfl rfl rfl hc32 rfl (by rfl) ?_
         refine .off rfl rfl rfl hc32 rfl (by rfl) ?_
         refine .v (f_pick_false (by rfl) hc32) rfl (.c rfl (.c rfl .nil)) .nil ?_
         refine .mv rfl (by rfl) ?_
         refine .off rfl rfl rfl rfl rfl (by rfl) ?_
         refine .off rfl rfl rfl rfl rfl (by rfl) ?_
         refine .v (f_pick_false (by rfl) rfl) rfl (.c rfl (.c rfl .nil)) .nil ?_
         refine .mv rfl (by rfl) ?_
         refine .off rfl rfl rfl rfl rfl (by rfl) ?_
         refine .off rfl rfl rfl rfl rfl (by rfl) ?_
         refine .v (f_pick_false (by rfl) rfl) rfl (.c rfl (.c rfl .nil)) .nil ?_
         refine .mv rfl (by rfl) ?_
         refine .off rfl rfl rfl rfl rfl (by rfl) ?_
         refine .off rfl rfl rfl rfl rfl (by rfl) ?_
         refine .off rfl rfl rfl rfl rfl (by rfl) ?_
         refine .v (f_pick_false (by rfl) rfl) rfl (.c rfl (.c rfl .nil)) .nil ?_
         refine .mv rfl (by rfl) ?_
         refine .off rfl rfl rfl rfl rfl (by rfl) ?_
         refine .off rfl rfl rfl rfl rfl (by rfl) ?_
         refine .v (f_pick_false (by rfl) rfl) rfl (.c rfl (.c rfl .nil)) .nil ?_
         refine .mv rfl (by rfl) ?_
         refine .off rfl rfl rfl rfl rfl (by rfl) ?_
         refine .off rfl rfl rfl rfl rfl (by rfl) ?_
         refine .off rfl rfl rfl rfl rfl (by rfl) ?_
         refine .v (f_pick_false (by rfl) rfl) rfl (.c rfl (.c rfl .nil)) .nil ?_
         refine .mv rfl (by rfl) ?_
         refine .off rfl rfl rfl rfl rfl (by rfl) ?_
         refine .off rfl rfl rfl rfl rfl (by rfl) ?_
         refine .off rfl rfl rfl rfl rfl (by rfl) ?_
         refine .off rfl rfl rfl rfl rfl (by rfl) ?_
         refine .off rfl rfl rfl rfl rfl (by rfl) ?_
         refine .v (f_pick_false (by rfl) rfl) rfl (.c rfl (.c rfl .nil)) .nil ?_
         refine .as rfl (by rfl) ?_
         refine .nil ?_
         obtain rfl := Option.some.inj h
         refine aq_weak (s' := ⟨[(0, .d (.val (.bool false)))], [], []⟩) id hb0 (.keep rfl .nil) .nil rfl (by rfl) ?_
         exact jq
       replace h := ite_f hc31 h
       refine .off rfl rfl rfl hc31 rfl (by rfl) ?_
       refine .off rfl rfl rfl hc31 rfl (by rfl) ?_
       refine .off rfl rfl rfl hc31 rfl (by rfl) ?_
       refine .off rfl rfl rfl hc31 rfl (by rfl) ?_
       refine .v (f_pick_false (by rfl) hc31) rfl (.c rfl (.c rfl .nil)) .nil ?_
       refine .mv rfl (by rfl) ?_
       refine .off rfl rfl rfl rfl rfl (by rfl) ?_
       refine .off rfl rfl rfl rfl rfl (by rfl) ?_
       refine .off rfl rfl rfl rfl rfl (by rfl) ?_
       refine .off rfl rfl rfl rfl rfl (by rfl) ?_
       refine .v (f_pick_false (by rfl) rfl) rfl (.c rfl (.c rfl .nil)) .nil ?_
       refine .mv rfl (by rfl) ?_
       refine .off rfl rfl rfl rfl rfl (by rfl) ?_
       refine .off rfl rfl rfl rfl rfl (by rfl) ?_
       refine .v (f_pick_false (by rfl) rfl) rfl (.c rfl (.c rfl .nil)) .nil ?_
       refine .mv rfl (by rfl) ?_
       refine .off rfl rfl rfl rfl rfl (by rfl) ?_
       refine .off rfl rfl rfl rfl rfl (by rfl) ?_
       refine .v (f_pick_false (by rfl) rfl) rfl (.c rfl (.c rfl .nil)) .nil ?_
       refine .mv rfl (by rfl) ?_
       refine .off rfl rfl rfl rfl rfl (by rfl) ?_
       refine .off rfl rfl rfl rfl rfl (by rfl) ?_
       refine .off rfl rfl rfl rfl rfl (by rfl) ?_
       refine .v (f_pick_false (by rfl) rfl) rfl (.c rfl (.c rfl .nil)) .nil ?_
       refine .mv rfl (by rfl) ?_
       refine .off rfl rfl rfl rfl rfl (by rfl) ?_
       refine .off rfl rfl rfl rfl rfl (by rfl) ?_
       refine .v (f_pick_false (by rfl) rfl) rfl (.c rfl (.c rfl .nil)) .nil ?_
       refine .mv rfl (by rfl) ?_
       refine .off rfl rfl rfl rfl rfl (by rfl) ?_
       refine .off rfl rfl rfl rfl rfl (by rfl) ?_
       refine .off rfl rfl rfl rfl rfl (by rfl) ?_
       refine .v (f_pick_false (by rfl) rfl) rfl (.c rfl (.c rfl .nil)) .nil ?_
       refine .mv rfl (by rfl) ?_
       refine .off rfl rfl rfl rfl rfl (by rfl) ?_
       refine .off rfl rfl rfl rfl rfl (by rfl) ?_
       refine .off rfl rfl rfl rfl rfl (by rfl) ?_
       refine .off rfl rfl rfl rfl rfl (by rfl) ?_
       refine .off rfl rfl rfl rfl rfl (by rfl) ?_
       refine .v (f_pick_false (by rfl) rfl) rfl (.c rfl (.c rfl .nil)) .nil ?_
       refine .as rfl (by rfl) ?_
       refine .nil ?_
       obtain rfl := Option.some.inj h
       refine aq_weak (s' := ⟨[(0, .d (.val (.bool false)))], [], []⟩) id hb0 (.keep rfl .nil) .nil rfl (by rfl) ?_
       exact jq
     replace h := ite_f hc30 h
     refine .off rfl rfl rfl hc30 rfl (by rfl) ?_
     refine .off rfl rfl rfl hc30 rfl (by rfl) ?_
     refine .v (f_pick_false (by rfl) hc30) rfl (.c rfl (.c rfl .nil)) .nil ?_
     refine .mv rfl (by rfl) ?_
     refine .off rfl rfl rfl rfl rfl (by rfl) ?_
     refine .off rfl rfl rfl rfl rfl (by rfl) ?_
     refine .off rfl rfl rfl rfl rfl (by rfl) ?_
     refine .off rfl rfl rfl rfl rfl (by rfl) ?_
     refine .v (f_pick_false (by rfl) rfl) rfl (.c rfl (.c rfl .nil)) .nil ?_
     refine .mv rfl (by rfl) ?_
     refine .off rfl rfl rfl rfl rfl (by rfl) ?_
     refine .off rfl rfl rfl rfl rfl (by rfl) ?_
     refine .off rfl rfl rfl rfl rfl (by rfl) ?_
     refine .off rfl rfl rfl rfl rfl (by rfl) ?_
     refine .v (f_pick_false (by rfl) rfl) rfl (.c rfl (.c rfl .nil)) .nil ?_
     refine .mv rfl (by rfl) ?_
     refine .off rfl rfl rfl rfl rfl (by rfl) ?_
     refine .off rfl rfl rfl rfl rfl (by rfl) ?_
     refine .v (f_pick_false (by rfl) rfl) rfl (.c rfl (.c rfl .nil)) .nil ?_
     refine .mv rfl (by rfl) ?_
     refine .off rfl rfl rfl rfl rfl (by rfl) ?_
     refine .off rfl rfl rfl rfl rfl (by rfl) ?_
     refine .v (f_pick_false (by rfl) rfl) rfl (.c rfl (.c rfl .nil)) .nil ?_
     refine .mv rfl (by rfl) ?_
     refine .off rfl rfl rfl rfl rfl (by rfl) ?_
     refine .off rfl rfl rfl rfl rfl (by rfl) ?_
     refine .off rfl rfl rfl rfl rfl (by rfl) ?_
     refine .v (f_pick_false (by rfl) rfl) rfl (.c rfl (.c rfl .nil)) .nil ?_
     refine .mv rfl (by rfl) ?_
     refine .off rfl rfl rfl rfl rfl (by rfl) ?_
     refine .off rfl rfl rfl rfl rfl (by rfl) ?_
     refine .v (f_pick_false (by rfl) rfl) rfl (.c rfl (.c rfl .nil)) .nil ?_
     refine .mv rfl (by rfl) ?_
     refine .off rfl rfl rfl rfl rfl (by rfl) ?_
     refine .off rfl rfl rfl rfl rfl (by rfl) ?_
     refine .off rfl rfl rfl rfl rfl (by rfl) ?_
     refine .v (f_pick_false (by rfl) rfl) rfl (.c rfl (.c rfl .nil)) .nil ?_
     refine .mv rfl (by rfl) ?_
     refine .off rfl rfl rfl rfl rfl (by rfl) ?_
     refine .off rfl rfl rfl rfl rfl (by rfl) ?_
     refine .off rfl rfl rfl rfl rfl (by rfl) ?_
     refine .off rfl rfl rfl rfl rfl (by rfl) ?_
     refine .off rfl rfl rfl rfl rfl (by rfl) ?_
     refine .v (f_pick_false (by rfl) rfl) rfl (.c rfl (.c rfl .nil)) .nil ?_
     refine .as rfl (by rfl) ?_
     refine .nil ?_
     obtain rfl := Option.some.inj h
     refine aq_weak (s' := ⟨[(0, .d (.val (.bool false)))], [], []⟩) id hb0 (.keep rfl .nil) .nil rfl (by rfl) ?_
     exact jq
   replace h := ite_f hc29 h
   refine .off rfl rfl rfl hc29 rfl (by rfl) ?_
   refine .off rfl rfl rfl hc29 rfl (by rfl) ?_
   refine .v (f_pick_false (by rfl) hc29) rfl (.c rfl (.c rfl .nil)) .nil ?_
   refine .mv rfl (by rfl) ?_
   refine .off rfl rfl rfl rfl rfl (by rfl) ?_
   refine .off rfl rfl rfl rfl rfl (by rfl) ?_
   refine .v (f_pick_false (by rfl) rfl) rfl (.c rfl (.c rfl .nil)) .nil ?_
   refine .mv rfl (by rfl) ?_
   refine .off rfl rfl rfl rfl rfl (by rfl) ?_
   refine .off rfl rfl rfl rfl rfl (by rfl) ?_
   refine .off rfl rfl rfl rfl rfl (by rfl) ?_
   refine .off rfl rfl rfl rfl rfl (by rfl) ?_
   refine .v (f_pick_false (by rfl) rfl) rfl (.c rfl (.c rfl .nil)) .nil ?_
   refine .mv rfl (by rfl) ?_
   refine .off rfl rfl rfl rfl rfl (by rfl) ?_
   refine .off rfl rfl rfl rfl rfl (by rfl) ?_
   refine .off rfl rfl rfl rfl rfl (by rfl) ?_
   refine .off rfl rfl rfl rfl rfl (by rfl) ?_
   refine .v (f_pick_false (by rfl) rfl) rfl (.c rfl (.c rfl .nil)) .nil ?_
   refine .mv rfl (by rfl) ?_
   refine .off rfl rfl rfl rfl rfl (by rfl) ?_
   refine .off rfl rfl rfl rfl rfl (by rfl) ?_
   refine .v (f_pick_false (by rfl) rfl) rfl (.c rfl (.c rfl .nil)) .nil ?_
   refine .mv rfl (by rfl) ?_
   refine .off rfl rfl rfl rfl rfl (by rfl) ?_
   refine .off rfl rfl rfl rfl rfl (by rfl) ?_
   refine .v (f_pick_false (by rfl) rfl) rfl (.c rfl (.c rfl .nil)) .nil ?_
   refine .mv rfl (by rfl) ?_
   refine .off rfl rfl rfl rfl rfl (by rfl) ?_
   refine .off rfl rfl rfl rfl rfl (by rfl) ?_
   refine .off rfl rfl rfl rfl rfl (by rfl) ?_
   refine .v (f_pick_false (by rfl) rfl) rfl (.c rfl (.c rfl .nil)) .nil ?_
   refine .mv rfl (by rfl) ?_
   refine .off rfl rfl rfl rfl rfl (by rfl) ?_
   refine .off rfl rfl rfl rfl rfl (by rfl) ?_
   refine .v (f_pick_false (by rfl) rfl) rfl (.c rfl (.c rfl .nil)) .nil ?_
   refine .mv rfl (by rfl) ?_
   refine .off rfl rfl rfl rfl rfl (by rfl) ?_
   refine .off rfl rfl rfl rfl rfl (by rfl) ?_
   refine .off rfl rfl rfl rfl rfl (by rfl) ?_
   refine .v (f_pick_false (by rfl) rfl) rfl (.c rfl (.c rfl .nil)) .nil ?_
   refine .mv rfl (by rfl) ?_
   refine .off rfl rfl rfl rfl rfl (by rfl) ?_
   refine .off rfl rfl rfl rfl rfl (by rfl) ?_
   refine .off rfl rfl rfl rfl rfl (by rfl) ?_
   refine .off rfl rfl rfl rfl rfl (by rfl) ?_
   refine .off rfl rfl rfl rfl rfl (by rfl) ?_
   refine .v (f_pick_false (by rfl) rfl) rfl (.c rfl (.c rfl .nil)) .nil ?_
   refine .as rfl (by rfl) ?_
   refine .nil ?_
   obtain rfl := Option.some.inj h
   refine aq_weak (s' := ⟨[(0, .d (.val (.bool false)))], [], []⟩) id hb0 (.keep rfl .nil) .nil rfl (by rfl) ?_
   exact jq
 refine aq_then ?_
 refine aw_ret ?_
 obtain rfl := Option.some.inj h
 exact aq_finp hb0 rfl (.tmp rfl (by rfl) .nil) (by rfl) rfl ⟨rfl, rfl⟩
end Go.Proofs.YtonfljoibcnlgaaDoor
