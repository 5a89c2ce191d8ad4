/-
  PRINTED by wip/pr3.py: for each Go function a Lean function with the same answers, and the proof.
-/
import Derived.Test.YtonfljoibcnlgaaDoorXb1
namespace Go.Proofs.YtonfljoibcnlgaaDoor
open Bd
set_option maxRecDepth 10000

/- 64: beadroll/acct.Get -/
def F64_acct_Get (n : Nat) (a0 : GTree) (a1 : (List Int)) : Option (GAccount × Int) :=
  ((F67_acct_Check n a0).bind fun (y1 : Int) => (if (y1 != (0 : Int)) = true then some ((⟨(0 : Int), (0 : Int)⟩ : GAccount), y1) else ((F103_tree_Get n a0 a1).bind fun (y4 : (List Int) × Bool) => (if (!y4.2) = true then some ((⟨(0 : Int), (0 : Int)⟩ : GAccount), (0 : Int)) else ((F104_acct_Read n y4.1).bind fun (y7 : GAccount × Int) => some (y7.1, y7.2))))))
theorem F64_acct_Get_ok {n : Nat} {a0 : GTree} {a1 : (List Int)} {r : GAccount × Int} (h : F64_acct_Get n a0 a1 = some r) :
    ACall Tryd.prog GS 64 [.d (eGTree a0), .d (eA22 a1)] [] (fun r' hp' => r' = .res [.d (eGAccount r.1), .d (.val (.int .i64 r.2))] ∧ hp' = []) := by
 refine acall_of_body mixed Tryd.func64 rfl (by rfl) ?_
 intro C hro hgl hb0
 unfold F64_acct_Get at h
 refine aw_rs ?_
 refine .n (f_box 2 (by rfl) (by rfl)) rfl (.c rfl .nil) rfl ?_
 refine .n (f_box 3 (by rfl) (by rfl)) rfl (.c rfl .nil) rfl ?_
 refine .n (f_alloc 4 (by rfl) zr95) rfl .nil rfl ?_
 refine .a rfl ?_
 refine .nil (aq_then ?_)
 refine aw_seq ?_
 refine aw_rs ?_
 refine .l 2 0 [] (.d (eGTree a0)) (.d (eGTree a0)) ty90 ?_
 obtain ⟨y1, hy2, h⟩ := bind_some h
 refine .v (f_callP hgl (by rfl) en67 rfl (by rfl) (by rfl) (by rfl) (F67_acct_Check_ok hy2)) rfl (.c rfl .nil) .nil ?_
 refine .a rfl ?_
 refine .z ?_
 refine .m rfl ?_
 refine .b rfl rfl rfl ?_
 refine .nil (aq_then ?_)
 refine aw_cond rfl (fun hc3 => ?_) (fun hc3 => ?_)
 ·replace h := ite_t hc3 h
  refine aw_rs ?_
  refine .v (f_build (xs := []) (z' := .d (eGAccount (⟨(0 : Int), (0 : Int)⟩ : GAccount))) (by rfl) zr95 ag95 rfl (by rfl) trivial (by rfl) (by rfl)) rfl .nil .nil ?_
  refine .m rfl ?_
  refine .s (f_store (n := 0) (o := 4) (off := 0) (p := []) (c := .d (eGAccount (⟨(0 : Int), (0 : Int)⟩ : GAccount))) (old := .d (eGAccount (⟨(0 : Int), (0 : Int)⟩ : GAccount))) (z := .d (eGAccount (⟨(0 : Int), (0 : Int)⟩ : GAccount))) (c' := .d (eGAccount (⟨(0 : Int), (0 : Int)⟩ : GAccount))) rfl rfl (by rfl) ty95 (by rfl)) rfl (.c rfl (.c rfl .nil)) (.cons rfl .nil) ?_
  refine .a rfl ?_
  refine .nil (aq_then ?_)
  refine aw_ret ?_
  refine aq_then_ret ?_
  obtain rfl := Option.some.inj h
  exact aq_finp hb0 rfl (.cell rfl rfl ty95 (by rfl) (.tmp rfl (by rfl) .nil)) (by rfl) rfl ⟨rfl, rfl⟩
 replace h := ite_f hc3 h
 refine aw_skip ?_
 refine aq_then ?_
 refine aw_rs ?_
 refine .l 2 0 [] (.d (eGTree a0)) (.d (eGTree a0)) ty90 ?_
 refine .l 3 0 [] (.d (eA22 a1)) (.d (eA22 a1)) ty23 ?_
 obtain ⟨y4, hy5, h⟩ := bind_some h
 refine .v (f_callP hgl (by rfl) en103 rfl (by rfl) (by rfl) (by rfl) (F103_tree_Get_ok hy5)) rfl (.c rfl (.c rfl .nil)) .nil ?_
 refine .m rfl ?_
 refine .v (f_extract (by rfl) rfl) rfl (.c rfl .nil) .nil ?_
 refine .v (f_extract (by rfl) rfl) rfl (.c rfl .nil) .nil ?_
 refine .a rfl ?_
 refine .a rfl ?_
 refine .nil (aq_then ?_)
 refine aw_seq ?_
 refine aw_rs ?_
 refine .m rfl ?_
 refine .v (f_not (by rfl)) rfl (.c rfl .nil) .nil ?_
 refine .nil (aq_then ?_)
 refine aw_cond rfl (fun hc6 => ?_) (fun hc6 => ?_)
 ·replace h := ite_t hc6 h
  refine aw_rs ?_
  refine .v (f_build (xs := []) (z' := .d (eGAccount (⟨(0 : Int), (0 : Int)⟩ : GAccount))) (by rfl) zr95 ag95 rfl (by rfl) trivial (by rfl) (by rfl)) rfl .nil .nil ?_
  refine .s (f_store (n := 0) (o := 4) (off := 0) (p := []) (c := .d (eGAccount (⟨(0 : Int), (0 : Int)⟩ : GAccount))) (old := .d (eGAccount (⟨(0 : Int), (0 : Int)⟩ : GAccount))) (z := .d (eGAccount (⟨(0 : Int), (0 : Int)⟩ : GAccount))) (c' := .d (eGAccount (⟨(0 : Int), (0 : Int)⟩ : GAccount))) rfl rfl (by rfl) ty95 (by rfl)) rfl (.c rfl (.c rfl .nil)) (.cons rfl .nil) ?_
  refine .a rfl ?_
  refine .nil (aq_then ?_)
  refine aw_ret ?_
  refine aq_then_ret ?_
  obtain rfl := Option.some.inj h
  exact aq_finp hb0 rfl (.cell rfl rfl ty95 (by rfl) (.tmp rfl (by rfl) .nil)) (by rfl) rfl ⟨rfl, rfl⟩
 replace h := ite_f hc6 h
 refine aw_skip ?_
 refine aq_then ?_
 refine aw_rs ?_
 refine .m rfl ?_
 obtain ⟨y7, hy8, h⟩ := bind_some h
 refine .v (f_callP hgl (by rfl) en104 rfl (by rfl) (by rfl) (by rfl) (F104_acct_Read_ok hy8)) rfl (.c rfl .nil) .nil ?_
 refine .v (f_extract (by rfl) rfl) rfl (.c rfl .nil) .nil ?_
 refine .v (f_extract (by rfl) rfl) rfl (.c rfl .nil) .nil ?_
 refine .s (f_store (n := 0) (o := 4) (off := 0) (p := []) (c := .d (eGAccount (⟨(0 : Int), (0 : Int)⟩ : GAccount))) (old := .d (eGAccount (⟨(0 : Int), (0 : Int)⟩ : GAccount))) (z := .d (eGAccount y7.1)) (c' := .d (eGAccount y7.1)) rfl rfl (by rfl) ty95 (by rfl)) rfl (.c rfl (.c rfl .nil)) (.cons rfl .nil) ?_
 refine .a rfl ?_
 refine .nil (aq_then ?_)
 refine aw_ret ?_
 obtain rfl := Option.some.inj h
 exact aq_finp hb0 rfl (.cell rfl rfl ty95 (by rfl) (.tmp rfl (by rfl) .nil)) (by rfl) rfl ⟨rfl, rfl⟩

/- 17: beadroll/queue.Past -/
def F17_queue_Past (n : Nat) (a0 : GLine) (a1 : Int) : Option (GLine × (List GTx) × Int) :=
  ((F18_queue_Check n a0).bind fun (y1 : Int) => (if (y1 != (0 : Int)) = true then some ((⟨(List.replicate 32 (0 : Int)), []⟩ : GLine), [], y1) else ((F74_queue_nonces n a0).bind fun (y4 : (List GTx)) => ((F75_api_Tx_ahead_844 n y4 a1).bind fun (y6 : Int) => (if 0 ≤ y6 ∧ y6 ≤ ((a0.Txs).length : Int) ∧ ((a0.Txs).length : Int) ≤ ((a0.Txs).length : Int) then ((F76_Clone n ((a0.Txs).drop (y6).toNat)).bind fun (y9 : List GTx) => (if 0 ≤ (0 : Int) ∧ (0 : Int) ≤ y6 ∧ y6 ≤ ((a0.Txs).length : Int) then ((F76_Clone n ((a0.Txs).take (y6).toNat)).bind fun (y12 : List GTx) => some ((⟨a0.From, y9⟩ : GLine), y12, (0 : Int))) else none)) else none)))))
theorem F17_queue_Past_ok {n : Nat} {a0 : GLine} {a1 : Int} {r : GLine × (List GTx) × Int} (h : F17_queue_Past n a0 a1 = some r) :
    ACall Tryd.prog GS 17 [.d (eGLine a0), .d (.val (.int .u64 a1))] [] (fun r' hp' => r' = .res [.d (eGLine r.1), .d (eL24 r.2.1), .d (.val (.int .i64 r.2.2))] ∧ hp' = []) := by
 refine acall_of_body mixed Tryd.func17 rfl (by rfl) ?_
 intro C hro hgl hb0
 unfold F17_queue_Past at h
 refine aw_rs ?_
 refine .n (f_box 2 (by rfl) (by rfl)) rfl (.c rfl .nil) rfl ?_
 refine .n (f_alloc 4 (by rfl) zrv26) rfl .nil rfl ?_
 refine .a rfl ?_
 refine .a rfl ?_
 refine .nil (aq_then ?_)
 refine aw_seq ?_
 refine aw_rs ?_
 refine .l 2 0 [] (.d (eGLine a0)) (.d (eGLine a0)) ty26 ?_
 obtain ⟨y1, hy2, h⟩ := bind_some h
 refine .v (f_callP hgl (by rfl) en18 rfl (by rfl) (by rfl) (by rfl) (F18_queue_Check_ok hy2)) rfl (.c rfl .nil) .nil ?_
 refine .a rfl ?_
 refine .z ?_
 refine .m rfl ?_
 refine .b rfl rfl rfl ?_
 refine .nil (aq_then ?_)
 refine aw_cond rfl (fun hc3 => ?_) (fun hc3 => ?_)
 ·replace h := ite_t hc3 h
  refine aw_rs ?_
  refine .l 4 0 [] (.st [.d (eA22 (List.replicate 32 (0 : Int))), .d (.val (.slice none 0 0))]) (.st [.d (eA22 (List.replicate 32 (0 : Int))), .d (.val (.slice none 0 0))]) ty26 ?_
  refine .m rfl ?_
  refine .s (f_store (n := 0) (o := 4) (off := 0) (p := []) (c := .st [.d (eA22 (List.replicate 32 (0 : Int))), .d (.val (.slice none 0 0))]) (old := .st [.d (eA22 (List.replicate 32 (0 : Int))), .d (.val (.slice none 0 0))]) (z := .st [.d (eA22 (List.replicate 32 (0 : Int))), .d (.val (.slice none 0 0))]) (c' := .st [.d (eA22 (List.replicate 32 (0 : Int))), .d (.val (.slice none 0 0))]) rfl rfl (by rfl) ty26 (by rfl)) rfl (.c rfl (.c rfl .nil)) (.cons rfl .nil) ?_
  refine .a rfl ?_
  refine .a rfl ?_
  refine .nil (aq_then ?_)
  refine aw_ret ?_
  refine aq_then_ret ?_
  obtain rfl := Option.some.inj h
  refine aq_freezeH [] [(4, .ptr 4 0 []), (5, .d (eL24 ([]))), (6, .d (.val (.int .i64 y1)))] [(4, .av (.d (eGLine (⟨(List.replicate 32 (0 : Int)), []⟩ : GLine))))] .nil (.keep rfl (.cons rfl .nil (.keep rfl .nil))) (.cons rfl (by rfl) (.st (.cons (.same _) (.cons .nil .nil))) .nil) ?_
  exact aq_finp hb0 rfl (.cell rfl rfl ty26 (by rfl) (.tmp rfl (by rfl) (.tmp rfl (by rfl) .nil))) (by rfl) rfl ⟨rfl, rfl⟩
 replace h := ite_f hc3 h
 refine aw_skip ?_
 refine aq_then ?_
 refine aw_rs ?_
 refine .l 2 0 [] (.d (eGLine a0)) (.d (eGLine a0)) ty26 ?_
 obtain ⟨y4, hy5, h⟩ := bind_some h
 refine .w (f_callG (xs := [.d (eGLine a0)]) (r := .st [.d (eL24 y4), .fn (.func 111) [] []]) (hw := [(1101, .av (.st [.d (eL24 y4), .fn (.func 111) [] []]))]) (fun i => bif Nat.beq i 2 then 1101 else i) [] hgl (by rfl) (cal_f en74) rfl (by rfl) (by rfl) (by rfl) (by rfl) (.cons (.same _) .nil) rfl rfl rfl rfl (F74_queue_nonces_ok hy5)) rfl (.c rfl .nil) .nil (.cons rfl .nil) ?_
 refine .m rfl ?_
 obtain ⟨y6, hy7, h⟩ := bind_some h
 refine .w (f_callG0 (xs := [.st [.d (eL24 y4), .fn (.func 111) [] []], .d (.val (.int .u64 a1))]) (r := .d (.val (.int .i64 y6))) (fun i => i) [] hgl (by rfl) (cal_f en75) rfl (by rfl) (by rfl) (by rfl) (by rfl) (.cons (.same _) (.cons (.same _) .nil)) rfl rfl (F75_api_Tx_ahead_844_ok hy7)) rfl (.c rfl (.c rfl .nil)) .nil .nil ?_
 refine .a rfl ?_
 refine .nil (aq_then ?_)
 refine aw_rds ?_
 refine .v (f_fieldAddr (n := 0) (by rfl) fl26_0 (by decide)) rfl (.c rfl .nil) .nil ?_
 refine .v (f_load (n := 0) (o := 2) (off := (0 + 0)) (p := [0]) (c := .d (eGLine a0)) (z := .d (eA22 a0.From)) (by rfl) rfl ty23 (by rfl)) rfl (.c rfl .nil) (.cons rfl .nil) ?_
 refine .v (f_fieldAddr (n := 32) (by rfl) fl26_1 (by decide)) rfl (.c rfl .nil) .nil ?_
 refine .v (f_load (n := 0) (o := 2) (off := (0 + 32)) (p := [1]) (c := .d (eGLine a0)) (z := .d (eL24 a0.Txs)) (by rfl) rfl ty24 (by rfl)) rfl (.c rfl .nil) (.cons rfl .nil) ?_
 refine .v (f_move (by rfl)) rfl (.c rfl .nil) .nil ?_
 obtain ⟨hb8, h⟩ := ifp h
 refine .v (f_sliceD (k1 := .i64) (k2 := .i64) (i := y6) (j := ((a0.Txs).length : Int)) (xs := (a0.Txs).map eGTx) (zs := ((a0.Txs).drop (y6).toNat).map eGTx) (by rfl) sl24 (by intro hx; first | rfl | cases hx) (by intro hx; first | (simp; done) | cases hx) hb8.1 hb8.2.1 (by rw [List.length_map]; exact hb8.2.2) (by simp [List.map_take, List.map_drop, List.take_of_length_le])) rfl (.c rfl (.c rfl .nil)) .nil ?_
 obtain ⟨y9, hy10, h⟩ := bind_some h
 refine .w (f_callG (xs := [.d (eL24 ((a0.Txs).drop (y6).toNat))]) (r := .slc 1102 0 ((y9).length) 99) (hw := [(1102, .av (.d (.arr 99 ((y9).length) ((y9).map eGTx))))]) (fun i => bif Nat.beq i 0 then 1102 else i) [] hgl (by rfl) (cal_f en76) rfl (by rfl) (by rfl) (by rfl) (by rfl) (.cons (.same _) .nil) rfl rfl rfl rfl (F76_Clone_ok hy10)) rfl (.c rfl .nil) .nil (.cons rfl .nil) ?_
 refine .v (f_build (xs := [(0, .d (eA22 a0.From)), (1, .slc 1102 0 ((y9).length) 99)]) (z' := .st [.d (eA22 a0.From), .slc 1102 0 ((y9).length) 99]) (by rfl) zrv26 ag26 rfl (by rfl) ⟨_, _, _, rfl, pl26_0, rfl, rfl, ⟨_, _, _, rfl, pl26_1, rfl, rfl, trivial⟩⟩ (by rfl) (by rfl)) rfl (.c rfl (.c rfl .nil)) .nil ?_
 refine .v (f_fieldAddr (n := 32) (by rfl) fl26_1 (by decide)) rfl (.c rfl .nil) .nil ?_
 refine .v (f_load (n := 0) (o := 2) (off := (0 + 32)) (p := [1]) (c := .d (eGLine a0)) (z := .d (eL24 a0.Txs)) (by rfl) rfl ty24 (by rfl)) rfl (.c rfl .nil) (.cons rfl .nil) ?_
 refine .v (f_move (by rfl)) rfl (.c rfl .nil) .nil ?_
 obtain ⟨hb11, h⟩ := ifp h
 refine .v (f_sliceD (k1 := .i64) (k2 := .i64) (i := (0 : Int)) (j := y6) (xs := (a0.Txs).map eGTx) (zs := ((a0.Txs).take (y6).toNat).map eGTx) (by rfl) sl24 (by intro hx; first | rfl | cases hx) (by intro hx; first | (simp; done) | cases hx) hb11.1 hb11.2.1 (by rw [List.length_map]; exact hb11.2.2) (by simp [List.map_take, List.map_drop, List.take_of_length_le])) rfl (.c rfl (.c rfl .nil)) .nil ?_
 obtain ⟨y12, hy13, h⟩ := bind_some h
 refine .w (f_callG (xs := [.d (eL24 ((a0.Txs).take (y6).toNat))]) (r := .slc 1103 0 ((y12).length) 99) (hw := [(1103, .av (.d (.arr 99 ((y12).length) ((y12).map eGTx))))]) (fun i => bif Nat.beq i 0 then 1103 else i) [] hgl (by rfl) (cal_f en76) rfl (by rfl) (by rfl) (by rfl) (by rfl) (.cons (.same _) .nil) rfl rfl rfl rfl (F76_Clone_ok hy13)) rfl (.c rfl .nil) .nil (.cons rfl .nil) ?_
 refine .s (f_store (n := 0) (o := 4) (off := 0) (p := []) (c := .st [.d (eA22 (List.replicate 32 (0 : Int))), .d (.val (.slice none 0 0))]) (old := .st [.d (eA22 (List.replicate 32 (0 : Int))), .d (.val (.slice none 0 0))]) (z := .st [.d (eA22 a0.From), .slc 1102 0 ((y9).length) 99]) (c' := .st [.d (eA22 a0.From), .slc 1102 0 ((y9).length) 99]) rfl rfl (by rfl) ty26 (by rfl)) rfl (.c rfl (.c rfl .nil)) (.cons rfl .nil) ?_
 refine .v (f_assign (by rfl)) rfl (.c rfl .nil) .nil ?_
 refine .v (f_assign (by rfl)) rfl (.c rfl .nil) .nil ?_
 refine .nil (by kernel_rfl) ?_
 refine aw_ret ?_
 obtain rfl := Option.some.inj h
 refine aq_freezeH [(1103, (.arr 99 ((y12).length) ((y12).map eGTx))), (1102, (.arr 99 ((y9).length) ((y9).map eGTx)))] [(4, .ptr 4 0 []), (5, .d (eL24 y12)), (6, .d (.val (.int .i64 (0 : Int))))] [(4, .av (.d (eGLine (⟨a0.From, y9⟩ : GLine))))] (.cons rfl (.cons rfl .nil)) (.keep rfl (.cons rfl (.whole (.head _)) (.keep rfl .nil))) (.cons rfl (by rfl) (.st (.cons (.same _) (.cons (.whole (.tail _ (.head _))) .nil))) .nil) ?_
 exact aq_finp hb0 rfl (.cell rfl rfl ty26 (by rfl) (.tmp rfl (by rfl) (.tmp rfl (by rfl) .nil))) (by rfl) rfl ⟨rfl, rfl⟩

/- 65: beadroll/shard.Draw -/
def F65_shard_Draw_s0 (n : Nat) (a0 : GShard) (a1 : GTree) (a2 : Int) (z0_0 : Int) (z0_1 : List GTx) (z0_2 : List GLine) : Option ((Int × List GTx × List GLine) ⊕ (List GTx × List GLine)) :=
  (if (decide (z0_0 < ((a0.Lines).length : Int))) = true then ((rd a0.Lines z0_0).bind fun (x11 : GLine) => ((F64_acct_Get n a1 x11.From).bind fun (y14 : GAccount × Int) => ((F17_queue_Past n x11 y14.1.Nonce).bind fun (y16 : GLine × (List GTx) × Int) => ((F16_queue_Ready n y16.1 y14.1.Nonce).bind fun (y18 : (List GTx) × Int) => (if 0 ≤ (0 : Int) ∧ (0 : Int) ≤ (if (if (IntKind.i64.wrap (a2 - ((z0_1).length : Int))) < ((y18.1).length : Int) then (IntKind.i64.wrap (a2 - ((z0_1).length : Int))) else ((y18.1).length : Int)) > (0 : Int) then (if (IntKind.i64.wrap (a2 - ((z0_1).length : Int))) < ((y18.1).length : Int) then (IntKind.i64.wrap (a2 - ((z0_1).length : Int))) else ((y18.1).length : Int)) else (0 : Int)) ∧ (if (if (IntKind.i64.wrap (a2 - ((z0_1).length : Int))) < ((y18.1).length : Int) then (IntKind.i64.wrap (a2 - ((z0_1).length : Int))) else ((y18.1).length : Int)) > (0 : Int) then (if (IntKind.i64.wrap (a2 - ((z0_1).length : Int))) < ((y18.1).length : Int) then (IntKind.i64.wrap (a2 - ((z0_1).length : Int))) else ((y18.1).length : Int)) else (0 : Int)) ≤ ((y18.1).length : Int) then (if ((z0_1 ++ ((y18.1).take ((if (if (IntKind.i64.wrap (a2 - ((z0_1).length : Int))) < ((y18.1).length : Int) then (IntKind.i64.wrap (a2 - ((z0_1).length : Int))) else ((y18.1).length : Int)) > (0 : Int) then (if (IntKind.i64.wrap (a2 - ((z0_1).length : Int))) < ((y18.1).length : Int) then (IntKind.i64.wrap (a2 - ((z0_1).length : Int))) else ((y18.1).length : Int)) else (0 : Int))).toNat))).length ≤ 1073741824 then (if 0 ≤ ((((y18.1).take ((if (if (IntKind.i64.wrap (a2 - ((z0_1).length : Int))) < ((y18.1).length : Int) then (IntKind.i64.wrap (a2 - ((z0_1).length : Int))) else ((y18.1).length : Int)) > (0 : Int) then (if (IntKind.i64.wrap (a2 - ((z0_1).length : Int))) < ((y18.1).length : Int) then (IntKind.i64.wrap (a2 - ((z0_1).length : Int))) else ((y18.1).length : Int)) else (0 : Int))).toNat)).length : Int) ∧ ((((y18.1).take ((if (if (IntKind.i64.wrap (a2 - ((z0_1).length : Int))) < ((y18.1).length : Int) then (IntKind.i64.wrap (a2 - ((z0_1).length : Int))) else ((y18.1).length : Int)) > (0 : Int) then (if (IntKind.i64.wrap (a2 - ((z0_1).length : Int))) < ((y18.1).length : Int) then (IntKind.i64.wrap (a2 - ((z0_1).length : Int))) else ((y18.1).length : Int)) else (0 : Int))).toNat)).length : Int) ≤ ((y16.1.Txs).length : Int) ∧ ((y16.1.Txs).length : Int) ≤ ((y16.1.Txs).length : Int) then ((F95_shard_part_set_ddb n ({ y16.1 with Txs := ((y16.1.Txs).drop (((((y18.1).take ((if (if (IntKind.i64.wrap (a2 - ((z0_1).length : Int))) < ((y18.1).length : Int) then (IntKind.i64.wrap (a2 - ((z0_1).length : Int))) else ((y18.1).length : Int)) > (0 : Int) then (if (IntKind.i64.wrap (a2 - ((z0_1).length : Int))) < ((y18.1).length : Int) then (IntKind.i64.wrap (a2 - ((z0_1).length : Int))) else ((y18.1).length : Int)) else (0 : Int))).toNat)).length : Int)).toNat) }) z0_2).bind fun (y23 : List GLine) => some (.inl ((IntKind.i64.wrap (z0_0 + (1 : Int))), (z0_1 ++ ((y18.1).take ((if (if (IntKind.i64.wrap (a2 - ((z0_1).length : Int))) < ((y18.1).length : Int) then (IntKind.i64.wrap (a2 - ((z0_1).length : Int))) else ((y18.1).length : Int)) > (0 : Int) then (if (IntKind.i64.wrap (a2 - ((z0_1).length : Int))) < ((y18.1).length : Int) then (IntKind.i64.wrap (a2 - ((z0_1).length : Int))) else ((y18.1).length : Int)) else (0 : Int))).toNat)), y23))) else none) else none) else none))))) else some (.inr (z0_1, z0_2)))
def F65_shard_Draw (n : Nat) (a0 : GShard) (a1 : GTree) (a2 : Int) : Option (GShard × (List GTx) × Int) :=
  ((((F52_shard_Check n a0).bind fun (y1 : Int) => (if (y1 != (0 : Int)) = true then some true else ((F67_acct_Check n a1).bind fun (y4 : Int) => some (y4 != (0 : Int)))))).bind fun (o6 : Bool) => (if o6 = true then some ((⟨[]⟩ : GShard), [], (8 : Int)) else ((F61_shard_Twin n a0).bind fun (y8 : List GLine) => ((loopF (fun (z : Int × List GTx × List GLine) => F65_shard_Draw_s0 n a0 a1 a2 z.1 z.2.1 z.2.2) n ((0 : Int), ([] : List GTx), y8)).bind fun (o25 : List GTx × List GLine) => some ((⟨o25.2⟩ : GShard), o25.1, (0 : Int))))))
theorem F65_shard_Draw_ok {n : Nat} {a0 : GShard} {a1 : GTree} {a2 : Int} {r : GShard × (List GTx) × Int} (h : F65_shard_Draw n a0 a1 a2 = some r) :
    ACall Tryd.prog GS 65 [.d (eGShard a0), .d (eGTree a1), .d (.val (.int .i64 a2))] [] (fun r' hp' => r' = .res [.d (eGShard r.1), .d (eL24 r.2.1), .d (.val (.int .i64 r.2.2))] ∧ hp' = []) := by
 refine acall_of_body mixed Tryd.func65 rfl (by rfl) ?_
 intro C hro hgl hb0
 unfold F65_shard_Draw at h
 refine aw_rs ?_
 refine .n (f_box 3 (by rfl) (by rfl)) rfl (.c rfl .nil) rfl ?_
 refine .n (f_box 4 (by rfl) (by rfl)) rfl (.c rfl .nil) rfl ?_
 refine .n (f_alloc 6 (by rfl) zrv74) rfl .nil rfl ?_
 refine .a rfl ?_
 refine .a rfl ?_
 refine .nil (aq_then ?_)
 refine aw_seq ?_
 refine aw_seq ?_
 obtain ⟨o6, ho27, h⟩ := bind_some h
 refine aw_join (.normal) ⟨[(2, .d (.val (.int .i64 a2))), (3, .ptr 3 0 []), (4, .ptr 4 0 []), (6, .ptr 6 0 []), (7, .d (.val (.slice none 0 0))), (26, .d (.val (.bool o6)))], [(3, .av (.d (eGShard a0))), (4, .av (.d (eGTree a1))), (6, .av (.st [.d (.val (.slice none 0 0))]))], []⟩ ?_ ?_
 ·replace h := ho27
  refine aw_r ?_
  refine .l 3 0 [] (.d (eGShard a0)) (.d (eGShard a0)) ty74 ?_
  obtain ⟨y1, hy2, h⟩ := bind_some h
  refine .v (f_callP hgl (by rfl) en52 rfl (by rfl) (by rfl) (by rfl) (F52_shard_Check_ok hy2)) rfl (.c rfl .nil) .nil ?_
  refine .b rfl rfl rfl ?_
  refine .m rfl ?_
  rcases Bool.eq_false_or_eq_true (y1 != (0 : Int)) with hc3 | hc3
  ·replace h := ite_t hc3 h
   refine .off rfl rfl rfl hc3 rfl (by rfl) ?_
   refine .off rfl rfl rfl hc3 rfl (by rfl) ?_
   refine .off rfl rfl rfl hc3 rfl (by rfl) ?_
   refine .v (f_pick_true (by rfl) hc3) rfl (.c rfl (.c rfl .nil)) .nil ?_
   refine .nil ?_
   obtain rfl := Option.some.inj h
   refine aq_weak (s' := ⟨[(2, .d (.val (.int .i64 a2))), (3, .ptr 3 0 []), (4, .ptr 4 0 []), (6, .ptr 6 0 []), (7, .d (.val (.slice none 0 0))), (26, .d (.val (.bool true)))], [(3, .av (.d (eGShard a0))), (4, .av (.d (eGTree a1))), (6, .av (.st [.d (.val (.slice none 0 0))]))], []⟩) id hb0 (.keep rfl (.keep rfl (.keep rfl (.keep rfl (.keep rfl (.keep rfl .nil)))))) (.keep rfl (.keep rfl (.keep rfl .nil))) rfl (by rfl) ?_
   exact jq
  replace h := ite_f hc3 h
  refine .gv (f_load (n := 0) (o := 4) (off := 0) (p := []) (c := .d (eGTree a1)) (z := .d (eGTree a1)) (by rfl) rfl ty90 (by rfl)) rfl rfl rfl hc3 (.c rfl .nil) (.cons rfl .nil) ?_
  obtain ⟨y4, hy5, h⟩ := bind_some h
  refine .gv (f_callP hgl (by rfl) en67 rfl (by rfl) (by rfl) (by rfl) (F67_acct_Check_ok hy5)) rfl rfl rfl hc3 (.c rfl .nil) .nil ?_
  refine .gv (f_binI (by rfl) rfl (by rfl)) rfl rfl rfl hc3 (.c rfl (.c rfl .nil)) .nil ?_
  refine .v (f_pick_false (by rfl) hc3) rfl (.c rfl (.c rfl .nil)) .nil ?_
  refine .nil ?_
  obtain rfl := Option.some.inj h
  refine aq_weak (s' := ⟨[(2, .d (.val (.int .i64 a2))), (3, .ptr 3 0 []), (4, .ptr 4 0 []), (6, .ptr 6 0 []), (7, .d (.val (.slice none 0 0))), (26, .d (.val (.bool (y4 != (0 : Int)))))], [(3, .av (.d (eGShard a0))), (4, .av (.d (eGTree a1))), (6, .av (.st [.d (.val (.slice none 0 0))]))], []⟩) id hb0 (.keep rfl (.keep rfl (.keep rfl (.keep rfl (.keep rfl (.keep rfl .nil)))))) (.keep rfl (.keep rfl (.keep rfl .nil))) rfl (by rfl) ?_
  exact jq
 refine aq_then ?_
 refine aw_cond rfl (fun hc7 => ?_) (fun hc7 => ?_)
 ·replace h := ite_t hc7 h
  refine aw_rs ?_
  refine .l 6 0 [] (.st [.d (.val (.slice none 0 0))]) (.st [.d (.val (.slice none 0 0))]) ty74 ?_
  refine .s (f_store (n := 0) (o := 6) (off := 0) (p := []) (c := .st [.d (.val (.slice none 0 0))]) (old := .st [.d (.val (.slice none 0 0))]) (z := .st [.d (.val (.slice none 0 0))]) (c' := .st [.d (.val (.slice none 0 0))]) rfl rfl (by rfl) ty74 (by rfl)) rfl (.c rfl (.c rfl .nil)) (.cons rfl .nil) ?_
  refine .a rfl ?_
  refine .a rfl ?_
  refine .nil (aq_then ?_)
  refine aw_ret ?_
  refine aq_then_ret ?_
  obtain rfl := Option.some.inj h
  refine aq_freezeH [] [(6, .ptr 6 0 []), (7, .d (eL24 ([]))), (8, .d (.val (.int .i64 (8 : Int))))] [(6, .av (.d (eGShard (⟨[]⟩ : GShard))))] .nil (.keep rfl (.cons rfl .nil (.keep rfl .nil))) (.cons rfl (by rfl) (.st (.cons .nil .nil)) .nil) ?_
  exact aq_finp hb0 rfl (.cell rfl rfl ty74 (by rfl) (.tmp rfl (by rfl) (.tmp rfl (by rfl) .nil))) (by rfl) rfl ⟨rfl, rfl⟩
 replace h := ite_f hc7 h
 refine aw_skip ?_
 refine aq_then ?_
 refine aw_rs ?_
 refine .l 3 0 [] (.d (eGShard a0)) (.d (eGShard a0)) ty74 ?_
 obtain ⟨y8, hy9, h⟩ := bind_some h
 refine .w (f_callG (xs := [.d (eGShard a0)]) (r := .st [.slc 1100 0 ((y8).length) 33]) (hw := [(1099, .av (.st [.slc 1100 0 ((y8).length) 33])), (1100, .av (.d (.arr 33 ((y8).length) ((y8).map eGLine))))]) (fun i => bif Nat.beq i 1076 then 1100 else (bif Nat.beq i 2 then 1099 else i)) [] hgl (by rfl) (cal_f en61) rfl (by rfl) (by rfl) (by rfl) (by rfl) (.cons (.same _) .nil) rfl rfl rfl rfl (F61_shard_Twin_ok hy9)) rfl (.c rfl .nil) .nil (.cons rfl (.cons rfl .nil)) ?_
 refine .v (f_build (xs := [(0, .st [.slc 1100 0 ((y8).length) 33])]) (z' := .st [.st [.slc 1100 0 ((y8).length) 33]]) (by rfl) zrv132 ag132 rfl (by rfl) ⟨_, _, _, rfl, pl132_0, rfl, rfl, trivial⟩ (by rfl) (by rfl)) rfl (.c rfl .nil) .nil ?_
 refine .n (f_box 31 (by rfl) (by rfl)) rfl (.c rfl .nil) rfl ?_
 refine .a rfl ?_
 refine .nil (aq_then ?_)
 refine aw_seq ?_
 refine aw_rs ?_
 refine .v (f_fieldAddr (n := 0) (by rfl) fl74_0 (by decide)) rfl (.c rfl .nil) .nil ?_
 refine .l 3 (0 + 0) [0] (.d (eGShard a0)) (.d (eL72 a0.Lines)) ty72 ?_
 refine .v (f_lenD (n := (a0.Lines).length) (by rfl) sl72 rfl (by simp)) rfl (.c rfl .nil) .nil ?_
 refine .m rfl ?_
 refine .nil (aq_then ?_)
 refine aw_block ?_
 refine aw_adopt 7 1106 99 rfl rfl ?_
 refine aw_weak (s' := ⟨[(2, .d (.val (.int .i64 a2))), (4, .ptr 4 0 []), (6, .ptr 6 0 []), (7, .slc 1106 0 ((([] : List GTx)).length) 99), (9, .ptr 31 0 []), (33, .d (eL72 a0.Lines)), (34, .d (.val (.int .i64 ((a0.Lines).length : Int)))), (35, .d (.val (.int .i64 (0 : Int))))], [(4, .av (.d (eGTree a1))), (6, .av (.st [.d (.val (.slice none 0 0))])), (1106, .av (.d (.arr 99 ((([] : List GTx)).length) ((([] : List GTx)).map eGTx)))), (31, .av (.st [.st [.slc 1100 0 ((y8).length) 33]])), (1100, .av (.d (.arr 33 ((y8).length) ((y8).map eGLine))))], []⟩) id hb0 (.keep rfl (.keep rfl (.keep rfl (.keep (by simp only [List.length_set]; rfl) (.keep rfl (.keep rfl (.keep rfl (.keep rfl .nil)))))))) (.keep rfl (.keep rfl (.keep (by simp only [List.length_set]; rfl) (.keep rfl (.keep rfl .nil))))) rfl (by rfl) ?_
 obtain ⟨o25, ho26, h⟩ := bind_some h
 refine aw_loopX (σ := Int × List GTx × List GLine) (fun z => ⟨[(2, .d (.val (.int .i64 a2))), (4, .ptr 4 0 []), (6, .ptr 6 0 []), (7, .slc 1106 0 ((z.2.1).length) 99), (9, .ptr 31 0 []), (33, .d (eL72 a0.Lines)), (34, .d (.val (.int .i64 ((a0.Lines).length : Int)))), (35, .d (.val (.int .i64 z.1)))], [(4, .av (.d (eGTree a1))), (6, .av (.st [.d (.val (.slice none 0 0))])), (1106, .av (.d (.arr 99 ((z.2.1).length) ((z.2.1).map eGTx)))), (31, .av (.st [.st [.slc 1100 0 ((z.2.2).length) 33]])), (1100, .av (.d (.arr 33 ((z.2.2).length) ((z.2.2).map eGLine))))], []⟩) (fun _ => (.exit 0)) (fun (o25 : List GTx × List GLine) => ⟨[(6, .ptr 6 0 []), (7, .slc 1106 0 ((o25.1).length) 99), (9, .ptr 31 0 [])], [(6, .av (.st [.d (.val (.slice none 0 0))])), (1106, .av (.d (.arr 99 ((o25.1).length) ((o25.1).map eGTx)))), (31, .av (.st [.st [.slc 1100 0 ((o25.2).length) 33]])), (1100, .av (.d (.arr 33 ((o25.2).length) ((o25.2).map eGLine))))], []⟩) ho26 (fun _ => rfl) ?_ ?_
 ·clear h ho26
  rintro ⟨z0_0, z0_1, z0_2⟩ o h
  change F65_shard_Draw_s0 n a0 a1 a2 z0_0 z0_1 z0_2 = some o at h
  unfold F65_shard_Draw_s0 at h
  show AW _ _ _ ⟨[(2, .d (.val (.int .i64 a2))), (4, .ptr 4 0 []), (6, .ptr 6 0 []), (7, .slc 1106 0 ((z0_1).length) 99), (9, .ptr 31 0 []), (33, .d (eL72 a0.Lines)), (34, .d (.val (.int .i64 ((a0.Lines).length : Int)))), (35, .d (.val (.int .i64 z0_0)))], [(4, .av (.d (eGTree a1))), (6, .av (.st [.d (.val (.slice none 0 0))])), (1106, .av (.d (.arr 99 ((z0_1).length) ((z0_1).map eGTx)))), (31, .av (.st [.st [.slc 1100 0 ((z0_2).length) 33]])), (1100, .av (.d (.arr 33 ((z0_2).length) ((z0_2).map eGLine))))], []⟩
  refine aw_rs ?_
  refine .b rfl rfl rfl ?_
  refine .nil (aq_then ?_)
  refine aw_seq ?_
  refine aw_cond rfl (fun hc10 => ?_) (fun hc10 => ?_)
  ·replace h := ite_t hc10 h
   refine aw_skip ?_
   refine aq_then ?_
   refine aw_seq ?_
   refine aw_block ?_
   refine aw_rs ?_
   obtain ⟨x11, hx12, h⟩ := bind_some h
   obtain ⟨hx13, hx12⟩ := rd_some hx12
   refine .v (f_indexS (by rfl) sl72 hx13 (rd_map _ hx12)) rfl (.c rfl (.c rfl .nil)) .nil ?_
   refine .v (f_loadR (z := (eGLine x11)) (by rfl) ty26) rfl (.c rfl .nil) .nil ?_
   refine .n (f_alloc 11 (by rfl) zrv26) rfl .nil rfl ?_
   refine .s (f_store (n := 0) (o := 11) (off := 0) (p := []) (c := .st [.d (eA22 (List.replicate 32 (0 : Int))), .d (.val (.slice none 0 0))]) (old := .st [.d (eA22 (List.replicate 32 (0 : Int))), .d (.val (.slice none 0 0))]) (z := .d (eGLine x11)) (c' := .d (eGLine x11)) rfl rfl (by rfl) ty26 (by rfl)) rfl (.c rfl (.c rfl .nil)) (.cons rfl .nil) ?_
   refine .z ?_
   refine .l 4 0 [] (.d (eGTree a1)) (.d (eGTree a1)) ty90 ?_
   refine .v (f_fieldAddr (n := 0) (by rfl) fl26_0 (by decide)) rfl (.c rfl .nil) .nil ?_
   refine .l 11 (0 + 0) [0] (.d (eGLine x11)) (.d (eA22 x11.From)) ty23 ?_
   obtain ⟨y14, hy15, h⟩ := bind_some h
   refine .v (f_callP hgl (by rfl) en64 rfl (by rfl) (by rfl) (by rfl) (F64_acct_Get_ok hy15)) rfl (.c rfl (.c rfl .nil)) .nil ?_
   refine .m rfl ?_
   refine .v (f_extract (by rfl) rfl) rfl (.c rfl .nil) .nil ?_
   refine .v (f_extract (by rfl) rfl) rfl (.c rfl .nil) .nil ?_
   refine .n (f_alloc 12 (by rfl) zr95) rfl .nil rfl ?_
   refine .s (f_store (n := 0) (o := 12) (off := 0) (p := []) (c := .d (eGAccount (⟨(0 : Int), (0 : Int)⟩ : GAccount))) (old := .d (eGAccount (⟨(0 : Int), (0 : Int)⟩ : GAccount))) (z := .d (eGAccount y14.1)) (c' := .d (eGAccount y14.1)) rfl rfl (by rfl) ty95 (by rfl)) rfl (.c rfl (.c rfl .nil)) (.cons rfl .nil) ?_
   refine .a rfl ?_
   refine .z ?_
   refine .l 11 0 [] (.d (eGLine x11)) (.d (eGLine x11)) ty26 ?_
   refine .v (f_fieldAddr (n := 0) (by rfl) fl95_0 (by decide)) rfl (.c rfl .nil) .nil ?_
   refine .l 12 (0 + 0) [0] (.d (eGAccount y14.1)) (.d (.val (.int .u64 y14.1.Nonce))) ty27 ?_
   obtain ⟨y16, hy17, h⟩ := bind_some h
   refine .v (f_callP hgl (by rfl) en17 rfl (by rfl) (by rfl) (by rfl) (F17_queue_Past_ok hy17)) rfl (.c rfl (.c rfl .nil)) .nil ?_
   refine .m rfl ?_
   refine .v (f_extract (by rfl) rfl) rfl (.c rfl .nil) .nil ?_
   refine .v (f_extract (by rfl) rfl) rfl (.c rfl .nil) .nil ?_
   refine .v (f_extract (by rfl) rfl) rfl (.c rfl .nil) .nil ?_
   refine .n (f_alloc 14 (by rfl) zrv26) rfl .nil rfl ?_
   refine .s (f_store (n := 0) (o := 14) (off := 0) (p := []) (c := .st [.d (eA22 (List.replicate 32 (0 : Int))), .d (.val (.slice none 0 0))]) (old := .st [.d (eA22 (List.replicate 32 (0 : Int))), .d (.val (.slice none 0 0))]) (z := .d (eGLine y16.1)) (c' := .d (eGLine y16.1)) rfl rfl (by rfl) ty26 (by rfl)) rfl (.c rfl (.c rfl .nil)) (.cons rfl .nil) ?_
   refine .a rfl ?_
   refine .a rfl ?_
   refine .z ?_
   refine .l 14 0 [] (.d (eGLine y16.1)) (.d (eGLine y16.1)) ty26 ?_
   refine .v (f_fieldAddr (n := 0) (by rfl) fl95_0 (by decide)) rfl (.c rfl .nil) .nil ?_
   refine .l 12 (0 + 0) [0] (.d (eGAccount y14.1)) (.d (.val (.int .u64 y14.1.Nonce))) ty27 ?_
   obtain ⟨y18, hy19, h⟩ := bind_some h
   refine .v (f_callP hgl (by rfl) en16 rfl (by rfl) (by rfl) (by rfl) (F16_queue_Ready_ok hy19)) rfl (.c rfl (.c rfl .nil)) .nil ?_
   refine .m rfl ?_
   refine .v (f_extract (by rfl) rfl) rfl (.c rfl .nil) .nil ?_
   refine .v (f_extract (by rfl) rfl) rfl (.c rfl .nil) .nil ?_
   refine .a rfl ?_
   refine .a rfl ?_
   refine .z ?_
   refine .m rfl ?_
   refine .m rfl ?_
   refine .v (f_lenD (n := (y18.1).length) (by rfl) sl24 rfl (by simp)) rfl (.c rfl .nil) .nil ?_
   refine .m rfl ?_
   refine .m rfl ?_
   refine .v (f_lenO (by rfl) sl24 rfl) rfl (.c rfl .nil) .nil ?_
   refine .b rfl rfl rfl ?_
   refine .v (f_minI (by rfl)) rfl (.c rfl (.c rfl .nil)) .nil ?_
   refine .v (f_maxI (by rfl)) rfl (.c rfl (.c rfl .nil)) .nil ?_
   obtain ⟨hb20, h⟩ := ifp h
   refine .v (f_sliceD (k1 := .i64) (k2 := .i64) (i := (0 : Int)) (j := (if (if (IntKind.i64.wrap (a2 - ((z0_1).length : Int))) < ((y18.1).length : Int) then (IntKind.i64.wrap (a2 - ((z0_1).length : Int))) else ((y18.1).length : Int)) > (0 : Int) then (if (IntKind.i64.wrap (a2 - ((z0_1).length : Int))) < ((y18.1).length : Int) then (IntKind.i64.wrap (a2 - ((z0_1).length : Int))) else ((y18.1).length : Int)) else (0 : Int))) (xs := (y18.1).map eGTx) (zs := ((y18.1).take ((if (if (IntKind.i64.wrap (a2 - ((z0_1).length : Int))) < ((y18.1).length : Int) then (IntKind.i64.wrap (a2 - ((z0_1).length : Int))) else ((y18.1).length : Int)) > (0 : Int) then (if (IntKind.i64.wrap (a2 - ((z0_1).length : Int))) < ((y18.1).length : Int) then (IntKind.i64.wrap (a2 - ((z0_1).length : Int))) else ((y18.1).length : Int)) else (0 : Int))).toNat).map eGTx) (by rfl) sl24 (by intro hx; first | rfl | cases hx) (by intro hx; first | (simp; done) | cases hx) hb20.1 hb20.2.1 (by rw [List.length_map]; exact hb20.2.2) (by simp [List.map_take, List.map_drop, List.take_of_length_le])) rfl (.c rfl (.c rfl .nil)) .nil ?_
   refine .a rfl ?_
   refine .z ?_
   refine .m rfl ?_
   refine .m rfl ?_
   obtain ⟨hb21, h⟩ := ifp h
   refine .w (f_appendC (m := ((z0_1 ++ ((y18.1).take ((if (if (IntKind.i64.wrap (a2 - ((z0_1).length : Int))) < ((y18.1).length : Int) then (IntKind.i64.wrap (a2 - ((z0_1).length : Int))) else ((y18.1).length : Int)) > (0 : Int) then (if (IntKind.i64.wrap (a2 - ((z0_1).length : Int))) < ((y18.1).length : Int) then (IntKind.i64.wrap (a2 - ((z0_1).length : Int))) else ((y18.1).length : Int)) else (0 : Int))).toNat))).length) (ys := (((y18.1).take ((if (if (IntKind.i64.wrap (a2 - ((z0_1).length : Int))) < ((y18.1).length : Int) then (IntKind.i64.wrap (a2 - ((z0_1).length : Int))) else ((y18.1).length : Int)) > (0 : Int) then (if (IntKind.i64.wrap (a2 - ((z0_1).length : Int))) < ((y18.1).length : Int) then (IntKind.i64.wrap (a2 - ((z0_1).length : Int))) else ((y18.1).length : Int)) else (0 : Int))).toNat) : List GTx).map eGTx) (xs := (z0_1).map eGTx) (zs := ((z0_1 ++ ((y18.1).take ((if (if (IntKind.i64.wrap (a2 - ((z0_1).length : Int))) < ((y18.1).length : Int) then (IntKind.i64.wrap (a2 - ((z0_1).length : Int))) else ((y18.1).length : Int)) > (0 : Int) then (if (IntKind.i64.wrap (a2 - ((z0_1).length : Int))) < ((y18.1).length : Int) then (IntKind.i64.wrap (a2 - ((z0_1).length : Int))) else ((y18.1).length : Int)) else (0 : Int))).toNat))).map eGTx) 1109 (by rfl) el24 (by simp) (by simp) (by simp [List.map_drop]) (by simp) (Nat.le_trans (Nat.mul_le_mul_right _ hb21) (by decide)) (Nat.le_trans hb21 (by decide)) srcD) rfl (.c rfl (.c rfl .nil)) (.cons rfl .nil) (.cons rfl .nil) ?_
   refine .a rfl ?_
   refine .z ?_
   refine .v (f_fieldAddr (n := 32) (by rfl) fl26_1 (by decide)) rfl (.c rfl .nil) .nil ?_
   refine .l 14 (0 + 32) [1] (.d (eGLine y16.1)) (.d (eL24 y16.1.Txs)) ty24 ?_
   refine .m rfl ?_
   refine .v (f_lenD (n := (((y18.1).take ((if (if (IntKind.i64.wrap (a2 - ((z0_1).length : Int))) < ((y18.1).length : Int) then (IntKind.i64.wrap (a2 - ((z0_1).length : Int))) else ((y18.1).length : Int)) > (0 : Int) then (if (IntKind.i64.wrap (a2 - ((z0_1).length : Int))) < ((y18.1).length : Int) then (IntKind.i64.wrap (a2 - ((z0_1).length : Int))) else ((y18.1).length : Int)) else (0 : Int))).toNat)).length) (by rfl) sl24 rfl (by simp)) rfl (.c rfl .nil) .nil ?_
   obtain ⟨hb22, h⟩ := ifp h
   refine .v (f_sliceD (k1 := .i64) (k2 := .i64) (i := ((((y18.1).take ((if (if (IntKind.i64.wrap (a2 - ((z0_1).length : Int))) < ((y18.1).length : Int) then (IntKind.i64.wrap (a2 - ((z0_1).length : Int))) else ((y18.1).length : Int)) > (0 : Int) then (if (IntKind.i64.wrap (a2 - ((z0_1).length : Int))) < ((y18.1).length : Int) then (IntKind.i64.wrap (a2 - ((z0_1).length : Int))) else ((y18.1).length : Int)) else (0 : Int))).toNat)).length : Int)) (j := ((y16.1.Txs).length : Int)) (xs := (y16.1.Txs).map eGTx) (zs := ((y16.1.Txs).drop (((((y18.1).take ((if (if (IntKind.i64.wrap (a2 - ((z0_1).length : Int))) < ((y18.1).length : Int) then (IntKind.i64.wrap (a2 - ((z0_1).length : Int))) else ((y18.1).length : Int)) > (0 : Int) then (if (IntKind.i64.wrap (a2 - ((z0_1).length : Int))) < ((y18.1).length : Int) then (IntKind.i64.wrap (a2 - ((z0_1).length : Int))) else ((y18.1).length : Int)) else (0 : Int))).toNat)).length : Int)).toNat).map eGTx) (by rfl) sl24 (by intro hx; first | rfl | cases hx) (by intro hx; first | (simp; done) | cases hx) hb22.1 hb22.2.1 (by rw [List.length_map]; exact hb22.2.2) (by simp [List.map_take, List.map_drop, List.take_of_length_le])) rfl (.c rfl (.c rfl .nil)) .nil ?_
   refine .v (f_fieldAddr (n := 32) (by rfl) fl26_1 (by decide)) rfl (.c rfl .nil) .nil ?_
   refine .s (f_store (n := 0) (o := 14) (off := (0 + 32)) (p := [1]) (c := .d (eGLine y16.1)) (old := .d (eL24 y16.1.Txs)) (z := .d (eL24 ((y16.1.Txs).drop (((((y18.1).take ((if (if (IntKind.i64.wrap (a2 - ((z0_1).length : Int))) < ((y18.1).length : Int) then (IntKind.i64.wrap (a2 - ((z0_1).length : Int))) else ((y18.1).length : Int)) > (0 : Int) then (if (IntKind.i64.wrap (a2 - ((z0_1).length : Int))) < ((y18.1).length : Int) then (IntKind.i64.wrap (a2 - ((z0_1).length : Int))) else ((y18.1).length : Int)) else (0 : Int))).toNat)).length : Int)).toNat))) (c' := .d (eGLine ({ y16.1 with Txs := ((y16.1.Txs).drop (((((y18.1).take ((if (if (IntKind.i64.wrap (a2 - ((z0_1).length : Int))) < ((y18.1).length : Int) then (IntKind.i64.wrap (a2 - ((z0_1).length : Int))) else ((y18.1).length : Int)) > (0 : Int) then (if (IntKind.i64.wrap (a2 - ((z0_1).length : Int))) < ((y18.1).length : Int) then (IntKind.i64.wrap (a2 - ((z0_1).length : Int))) else ((y18.1).length : Int)) else (0 : Int))).toNat)).length : Int)).toNat) }))) rfl rfl (by rfl) ty24 (by rfl)) rfl (.c rfl (.c rfl .nil)) (.cons rfl .nil) ?_
   refine .nil (aq_then ?_)
   refine aw_r ?_
   refine .m rfl ?_
   refine .l 14 0 [] (.d (eGLine ({ y16.1 with Txs := ((y16.1.Txs).drop (((((y18.1).take ((if (if (IntKind.i64.wrap (a2 - ((z0_1).length : Int))) < ((y18.1).length : Int) then (IntKind.i64.wrap (a2 - ((z0_1).length : Int))) else ((y18.1).length : Int)) > (0 : Int) then (if (IntKind.i64.wrap (a2 - ((z0_1).length : Int))) < ((y18.1).length : Int) then (IntKind.i64.wrap (a2 - ((z0_1).length : Int))) else ((y18.1).length : Int)) else (0 : Int))).toNat)).length : Int)).toNat) }))) (.d (eGLine ({ y16.1 with Txs := ((y16.1.Txs).drop (((((y18.1).take ((if (if (IntKind.i64.wrap (a2 - ((z0_1).length : Int))) < ((y18.1).length : Int) then (IntKind.i64.wrap (a2 - ((z0_1).length : Int))) else ((y18.1).length : Int)) > (0 : Int) then (if (IntKind.i64.wrap (a2 - ((z0_1).length : Int))) < ((y18.1).length : Int) then (IntKind.i64.wrap (a2 - ((z0_1).length : Int))) else ((y18.1).length : Int)) else (0 : Int))).toNat)).length : Int)).toNat) }))) ty26 ?_
   obtain ⟨y23, hy24, h⟩ := bind_some h
   refine .w (f_callG (xs := [.ptr 31 0 [], .d (eGLine ({ y16.1 with Txs := ((y16.1.Txs).drop (((((y18.1).take ((if (if (IntKind.i64.wrap (a2 - ((z0_1).length : Int))) < ((y18.1).length : Int) then (IntKind.i64.wrap (a2 - ((z0_1).length : Int))) else ((y18.1).length : Int)) > (0 : Int) then (if (IntKind.i64.wrap (a2 - ((z0_1).length : Int))) < ((y18.1).length : Int) then (IntKind.i64.wrap (a2 - ((z0_1).length : Int))) else ((y18.1).length : Int)) else (0 : Int))).toNat)).length : Int)).toNat) }))]) (r := .res []) (hw := [(31, .av (.st [.st [.slc 1110 0 ((y23).length) 33]])), (1100, .dead), (1110, .av (.d (.arr 33 ((y23).length) ((y23).map eGLine))))]) (fun i => bif Nat.beq i 1088 then 1110 else (bif Nat.beq i 1 then 1100 else (bif Nat.beq i 0 then 31 else i))) [] hgl (by rfl) (cal_f en95) rfl (by rfl) (by rfl) (by rfl) (by rfl) (.cons (.same _) (.cons (.same _) .nil)) rfl rfl rfl rfl (F95_shard_part_set_ddb_ok hy24)) rfl (.c rfl (.c rfl .nil)) (.cons rfl (.cons rfl .nil)) (.cons rfl .nil) ?_
   refine .nil ?_
   refine aq_block ?_
   refine aq_then ?_
   refine aw_r ?_
   refine .b rfl rfl rfl ?_
   refine .m rfl ?_
   refine .nil ?_
   obtain rfl := Option.some.inj h
   refine aq_weak (s' := ⟨[(2, .d (.val (.int .i64 a2))), (4, .ptr 4 0 []), (6, .ptr 6 0 []), (7, .slc 1106 0 (((z0_1 ++ ((y18.1).take ((if (if (IntKind.i64.wrap (a2 - ((z0_1).length : Int))) < ((y18.1).length : Int) then (IntKind.i64.wrap (a2 - ((z0_1).length : Int))) else ((y18.1).length : Int)) > (0 : Int) then (if (IntKind.i64.wrap (a2 - ((z0_1).length : Int))) < ((y18.1).length : Int) then (IntKind.i64.wrap (a2 - ((z0_1).length : Int))) else ((y18.1).length : Int)) else (0 : Int))).toNat))).length) 99), (9, .ptr 31 0 []), (33, .d (eL72 a0.Lines)), (34, .d (.val (.int .i64 ((a0.Lines).length : Int)))), (35, .d (.val (.int .i64 (IntKind.i64.wrap (z0_0 + (1 : Int))))))], [(4, .av (.d (eGTree a1))), (6, .av (.st [.d (.val (.slice none 0 0))])), (1106, .av (.d (.arr 99 (((z0_1 ++ ((y18.1).take ((if (if (IntKind.i64.wrap (a2 - ((z0_1).length : Int))) < ((y18.1).length : Int) then (IntKind.i64.wrap (a2 - ((z0_1).length : Int))) else ((y18.1).length : Int)) > (0 : Int) then (if (IntKind.i64.wrap (a2 - ((z0_1).length : Int))) < ((y18.1).length : Int) then (IntKind.i64.wrap (a2 - ((z0_1).length : Int))) else ((y18.1).length : Int)) else (0 : Int))).toNat))).length) (((z0_1 ++ ((y18.1).take ((if (if (IntKind.i64.wrap (a2 - ((z0_1).length : Int))) < ((y18.1).length : Int) then (IntKind.i64.wrap (a2 - ((z0_1).length : Int))) else ((y18.1).length : Int)) > (0 : Int) then (if (IntKind.i64.wrap (a2 - ((z0_1).length : Int))) < ((y18.1).length : Int) then (IntKind.i64.wrap (a2 - ((z0_1).length : Int))) else ((y18.1).length : Int)) else (0 : Int))).toNat))).map eGTx)))), (31, .av (.st [.st [.slc 1100 0 ((y23).length) 33]])), (1100, .av (.d (.arr 33 ((y23).length) ((y23).map eGLine))))], []⟩) (fun i => (bif Nat.beq i 1100 then 1110 else (bif Nat.beq i 1106 then 1109 else i))) hb0 (.cons rfl (.cons rfl (.cons rfl (.cons rfl (.cons rfl (.cons rfl (.cons rfl (.cons rfl .nil)))))))) (.cons rfl (.cons rfl (.cons rfl (.cons rfl (.cons rfl .nil))))) rfl (by rfl) ?_
   exact jq
  replace h := ite_f hc10 h
  refine aw_exit ?_
  refine aq_then_exit ?_
  obtain rfl := Option.some.inj h
  refine aq_weak (s' := ⟨[(6, .ptr 6 0 []), (7, .slc 1106 0 ((z0_1).length) 99), (9, .ptr 31 0 [])], [(6, .av (.st [.d (.val (.slice none 0 0))])), (1106, .av (.d (.arr 99 ((z0_1).length) ((z0_1).map eGTx)))), (31, .av (.st [.st [.slc 1100 0 ((z0_2).length) 33]])), (1100, .av (.d (.arr 33 ((z0_2).length) ((z0_2).map eGLine))))], []⟩) id hb0 (.keep rfl (.keep rfl (.keep rfl .nil))) (.keep rfl (.keep rfl (.keep rfl (.keep rfl .nil)))) rfl (by rfl) ?_
  exact jq
 refine aq_block_exit ?_
 refine aq_then ?_
 refine aw_rs ?_
 refine .m rfl ?_
 refine .v (f_nilCheck (by rfl)) rfl (.c rfl .nil) .nil ?_
 refine .v (f_fieldAddr (n := 0) (by rfl) fl132_0 (by decide)) rfl (.c rfl .nil) .nil ?_
 refine .l 31 (0 + 0) [0] (.st [.st [.slc 1100 0 ((o25.2).length) 33]]) (.st [.slc 1100 0 ((o25.2).length) 33]) ty74 ?_
 refine .m rfl ?_
 refine .s (f_store (n := 0) (o := 6) (off := 0) (p := []) (c := .st [.d (.val (.slice none 0 0))]) (old := .st [.d (.val (.slice none 0 0))]) (z := .st [.slc 1100 0 ((o25.2).length) 33]) (c' := .st [.slc 1100 0 ((o25.2).length) 33]) rfl rfl (by rfl) ty74 (by rfl)) rfl (.c rfl (.c rfl .nil)) (.cons rfl .nil) ?_
 refine .a rfl ?_
 refine .a rfl ?_
 refine .nil (aq_then ?_)
 refine aw_ret ?_
 obtain rfl := Option.some.inj h
 refine aq_freezeH [(1106, (.arr 99 ((o25.1).length) ((o25.1).map eGTx))), (1100, (.arr 33 ((o25.2).length) ((o25.2).map eGLine)))] [(6, .ptr 6 0 []), (7, .d (eL24 o25.1)), (8, .d (.val (.int .i64 (0 : Int))))] [(6, .av (.d (eGShard (⟨o25.2⟩ : GShard)))), (31, .av (.d (eGshard_part (⟨(⟨o25.2⟩ : GShard)⟩ : Gshard_part))))] (.cons rfl (.cons rfl .nil)) (.keep rfl (.cons rfl (.whole (.head _)) (.keep rfl .nil))) (.cons rfl (by rfl) (.st (.cons (.whole (.tail _ (.head _))) .nil)) (.cons rfl (by rfl) (.st (.cons (.st (.cons (.whole (.tail _ (.head _))) .nil)) .nil)) .nil)) ?_
 exact aq_finp hb0 rfl (.cell rfl rfl ty74 (by rfl) (.tmp rfl (by rfl) (.tmp rfl (by rfl) .nil))) (by rfl) rfl ⟨rfl, rfl⟩

/- 48: beadroll/beadrolllaw20.alive -/
def F48_beadrolllaw20_alive (n : Nat)  : Option (Bool) :=
  ((F70_beadrolllaw20_two n ).bind fun (y1 : GShard) => ((F71_beadrolllaw20_one n (2 : Int) (0 : Int) (5 : Int)).bind fun (y3 : GTx) => ((F50_shard_Submit n y1 (2 : Int) (0 : Int) y3).bind fun (y5 : GShard × (List GTx) × Int) => ((F70_beadrolllaw20_two n ).bind fun (y7 : GShard) => ((F71_beadrolllaw20_one n (2 : Int) (0 : Int) (6 : Int)).bind fun (y9 : GTx) => ((F50_shard_Submit n y7 (2 : Int) (0 : Int) y9).bind fun (y11 : GShard × (List GTx) × Int) => ((((F70_beadrolllaw20_two n ).bind fun (y13 : GShard) => ((F53_shard_Count n y13).bind fun (y15 : Int) => (if (y15 == (2 : Int)) = true then (if (y5.2.2 == (9 : Int)) = true then (if (y11.2.2 == (0 : Int)) = true then ((F53_shard_Count n y11.1).bind fun (y20 : Int) => (if (y20 == (2 : Int)) = true then ((F71_beadrolllaw20_one n (1 : Int) (1 : Int) (5 : Int)).bind fun (y23 : GTx) => ((F20_beadrollref19_SameTxs n y11.2.1 ([y23] : List GTx)).bind fun (y25 : Bool) => some y25)) else some false)) else some false) else some false) else some false)))).bind fun (o27 : Bool) => some o27)))))))
theorem F48_beadrolllaw20_alive_ok {n : Nat}  {r : Bool} (h : F48_beadrolllaw20_alive n  = some r) :
    ACall Tryd.prog GS 48 [] [] (fun r' hp' => r' = .d (.val (.bool r)) ∧ hp' = []) := by
 refine acall_of_body mixed Tryd.func48 rfl (by rfl) ?_
 intro C hro hgl hb0
 unfold F48_beadrolllaw20_alive at h
 refine aw_rs ?_
 refine .a rfl ?_
 refine .z ?_
 obtain ⟨y1, hy2, h⟩ := bind_some h
 refine .v (f_callP hgl (by rfl) en70 rfl (by rfl) (by rfl) (by rfl) (F70_beadrolllaw20_two_ok hy2)) rfl .nil .nil ?_
 obtain ⟨y3, hy4, h⟩ := bind_some h
 refine .v (f_callP hgl (by rfl) en71 rfl (by rfl) (by rfl) (by rfl) (F71_beadrolllaw20_one_ok hy4)) rfl (.c rfl (.c rfl (.c rfl .nil))) .nil ?_
 obtain ⟨y5, hy6, h⟩ := bind_some h
 refine .v (f_callP hgl (by rfl) en50 rfl (by rfl) (by rfl) (by rfl) (F50_shard_Submit_ok hy6)) rfl (.c rfl (.c rfl (.c rfl (.c rfl .nil)))) .nil ?_
 refine .m rfl ?_
 refine .v (f_extract (by rfl) rfl) rfl (.c rfl .nil) .nil ?_
 refine .v (f_extract (by rfl) rfl) rfl (.c rfl .nil) .nil ?_
 refine .v (f_extract (by rfl) rfl) rfl (.c rfl .nil) .nil ?_
 refine .n (f_alloc 1 (by rfl) zrv74) rfl .nil rfl ?_
 refine .s (f_store (n := 0) (o := 1) (off := 0) (p := []) (c := .st [.d (.val (.slice none 0 0))]) (old := .st [.d (.val (.slice none 0 0))]) (z := .d (eGShard y5.1)) (c' := .d (eGShard y5.1)) rfl rfl (by rfl) ty74 (by rfl)) rfl (.c rfl (.c rfl .nil)) (.cons rfl .nil) ?_
 refine .a rfl ?_
 refine .a rfl ?_
 refine .z ?_
 obtain ⟨y7, hy8, h⟩ := bind_some h
 refine .v (f_callP hgl (by rfl) en70 rfl (by rfl) (by rfl) (by rfl) (F70_beadrolllaw20_two_ok hy8)) rfl .nil .nil ?_
 obtain ⟨y9, hy10, h⟩ := bind_some h
 refine .v (f_callP hgl (by rfl) en71 rfl (by rfl) (by rfl) (by rfl) (F71_beadrolllaw20_one_ok hy10)) rfl (.c rfl (.c rfl (.c rfl .nil))) .nil ?_
 obtain ⟨y11, hy12, h⟩ := bind_some h
 refine .v (f_callP hgl (by rfl) en50 rfl (by rfl) (by rfl) (by rfl) (F50_shard_Submit_ok hy12)) rfl (.c rfl (.c rfl (.c rfl (.c rfl .nil)))) .nil ?_
 refine .m rfl ?_
 refine .v (f_extract (by rfl) rfl) rfl (.c rfl .nil) .nil ?_
 refine .v (f_extract (by rfl) rfl) rfl (.c rfl .nil) .nil ?_
 refine .v (f_extract (by rfl) rfl) rfl (.c rfl .nil) .nil ?_
 refine .n (f_alloc 4 (by rfl) zrv74) rfl .nil rfl ?_
 refine .s (f_store (n := 0) (o := 4) (off := 0) (p := []) (c := .st [.d (.val (.slice none 0 0))]) (old := .st [.d (.val (.slice none 0 0))]) (z := .d (eGShard y11.1)) (c' := .d (eGShard y11.1)) rfl rfl (by rfl) ty74 (by rfl)) rfl (.c rfl (.c rfl .nil)) (.cons rfl .nil) ?_
 refine .a rfl ?_
 refine .a rfl ?_
 refine .nil (aq_then ?_)
 refine aw_seq ?_
 obtain ⟨o27, ho28, h⟩ := bind_some h
 refine aw_join (.normal) ⟨[(0, .d (.val (.bool o27)))], [], []⟩ ?_ ?_
 ·replace h := ho28
  refine aw_r ?_
  obtain ⟨y13, hy14, h⟩ := bind_some h
  refine .v (f_callP hgl (by rfl) en70 rfl (by rfl) (by rfl) (by rfl) (F70_beadrolllaw20_two_ok hy14)) rfl .nil .nil ?_
  obtain ⟨y15, hy16, h⟩ := bind_some h
  refine .v (f_callP hgl (by rfl) en53 rfl (by rfl) (by rfl) (by rfl) (F53_shard_Count_ok hy16)) rfl (.c rfl .nil) .nil ?_
  refine .b rfl rfl rfl ?_
  refine .m rfl ?_
  rcases Bool.eq_false_or_eq_true (y15 == (2 : Int)) with hc17 | hc17
  ·replace h := ite_t hc17 h
   refine .gv (f_move (by rfl)) rfl rfl rfl hc17 (.c rfl .nil) .nil ?_
   refine .gv (f_binI (by rfl) rfl (by rfl)) rfl rfl rfl hc17 (.c rfl (.c rfl .nil)) .nil ?_
   refine .v (f_pick_true (by rfl) hc17) rfl (.c rfl (.c rfl .nil)) .nil ?_
   refine .m rfl ?_
   rcases Bool.eq_false_or_eq_true (y5.2.2 == (9 : Int)) with hc18 | hc18
   ·replace h := ite_t hc18 h
    refine .gv (f_move (by rfl)) rfl rfl rfl hc18 (.c rfl .nil) .nil ?_
    refine .gv (f_binI (by rfl) rfl (by rfl)) rfl rfl rfl hc18 (.c rfl (.c rfl .nil)) .nil ?_
    refine .v (f_pick_true (by rfl) hc18) rfl (.c rfl (.c rfl .nil)) .nil ?_
    refine .m rfl ?_
    rcases Bool.eq_false_or_eq_true (y11.2.2 == (0 : Int)) with hc19 | hc19
    ·replace h := ite_t hc19 h
     refine .gv (f_load (n := 0) (o := 4) (off := 0) (p := []) (c := .d (eGShard y11.1)) (z := .d (eGShard y11.1)) (by rfl) rfl ty74 (by rfl)) rfl rfl rfl hc19 (.c rfl .nil) (.cons rfl .nil) ?_
     obtain ⟨y20, hy21, h⟩ := bind_some h
     refine .gv (f_callP hgl (by rfl) en53 rfl (by rfl) (by rfl) (by rfl) (F53_shard_Count_ok hy21)) rfl rfl rfl hc19 (.c rfl .nil) .nil ?_
     refine .gv (f_binI (by rfl) rfl (by rfl)) rfl rfl rfl hc19 (.c rfl (.c rfl .nil)) .nil ?_
     refine .v (f_pick_true (by rfl) hc19) rfl (.c rfl (.c rfl .nil)) .nil ?_
     refine .m rfl ?_
     rcases Bool.eq_false_or_eq_true (y20 == (2 : Int)) with hc22 | hc22
     ·replace h := ite_t hc22 h
      refine .gv (f_move (by rfl)) rfl rfl rfl hc22 (.c rfl .nil) .nil ?_
      obtain ⟨y23, hy24, h⟩ := bind_some h
      refine .gv (f_callP hgl (by rfl) en71 rfl (by rfl) (by rfl) (by rfl) (F71_beadrolllaw20_one_ok hy24)) rfl rfl rfl hc22 (.c rfl (.c rfl (.c rfl .nil))) .nil ?_
      refine .gw (f_buildS (xs := [(0, .d (eGTx y23))]) (z := (.st [(eA22 (List.replicate 32 (0 : Int))), (eA22 (List.replicate 32 (0 : Int))), (.val (.int .u64 (0 : Int))), (.val (.int .u64 (0 : Int))), (.val (.int .u64 (0 : Int))), (eA22 (List.replicate 32 (0 : Int)))])) (zs := (([y23] : List GTx)).map eGTx) 1111 (by rfl) el24 zel24 (by rfl) (by decide) (by decide) rfl (by rfl) ⟨_, _, _, rfl, pl24_0, rfl, rfl, trivial⟩ (by rfl)) rfl rfl rfl hc22 (.c rfl .nil) .nil (.cons rfl .nil) ?_
      obtain ⟨y25, hy26, h⟩ := bind_some h
      refine .gw (f_callH0 (xs := [.d (eL24 y11.2.1), .slc 1111 0 ((([y23] : List GTx)).length) 99]) (r := .d (.val (.bool y25))) (hr := []) (fun i => i) [(1111, (.arr 99 ((([y23] : List GTx)).length) ((([y23] : List GTx)).map eGTx)))] hgl (by rfl) (cal_f en20) rfl (by rfl) (by rfl) (by rfl) (by rfl) (by rfl) (.cons (.same _) (.cons (.whole (.head _)) .nil)) rfl rfl (flat_val) trivial (F20_beadrollref19_SameTxs_ok hy26)) rfl rfl rfl hc22 (.c rfl (.c rfl .nil)) (.cons rfl .nil) .nil ?_
      refine .v (f_pick_true (by rfl) hc22) rfl (.c rfl (.c rfl .nil)) .nil ?_
      refine .a rfl ?_
      refine .nil ?_
      obtain rfl := Option.some.inj h
      refine aq_weak (s' := ⟨[(0, .d (.val (.bool y25)))], [], []⟩) id hb0 (.keep rfl .nil) .nil rfl (by rfl) ?_
      exact jq
     replace h := ite_f hc22 h
     refine .off rfl rfl rfl hc22 rfl (by rfl) ?_
     refine .off rfl rfl rfl hc22 rfl (by rfl) ?_
     refine .off rfl rfl rfl hc22 rfl (by rfl) ?_
     refine .off rfl rfl rfl hc22 rfl (by rfl) ?_
     refine .v (f_pick_false (by rfl) hc22) rfl (.c rfl (.c rfl .nil)) .nil ?_
     refine .a rfl ?_
     refine .nil ?_
     obtain rfl := Option.some.inj h
     refine aq_weak (s' := ⟨[(0, .d (.val (.bool false)))], [], []⟩) id hb0 (.keep rfl .nil) .nil rfl (by rfl) ?_
     exact jq
    replace h := ite_f hc19 h
    refine .off rfl rfl rfl hc19 rfl (by rfl) ?_
    refine .off rfl rfl rfl hc19 rfl (by rfl) ?_
    refine .off rfl rfl rfl hc19 rfl (by rfl) ?_
    refine .v (f_pick_false (by rfl) hc19) rfl (.c rfl (.c rfl .nil)) .nil ?_
    refine .m rfl ?_
    refine .off rfl rfl rfl rfl rfl (by rfl) ?_
    refine .off rfl rfl rfl rfl rfl (by rfl) ?_
    refine .off rfl rfl rfl rfl rfl (by rfl) ?_
    refine .off rfl rfl rfl rfl rfl (by rfl) ?_
    refine .v (f_pick_false (by rfl) rfl) rfl (.c rfl (.c rfl .nil)) .nil ?_
    refine .a rfl ?_
    refine .nil ?_
    obtain rfl := Option.some.inj h
    refine aq_weak (s' := ⟨[(0, .d (.val (.bool false)))], [], []⟩) id hb0 (.keep rfl .nil) .nil rfl (by rfl) ?_
    exact jq
   replace h := ite_f hc18 h
   refine .off rfl rfl rfl hc18 rfl (by rfl) ?_
   refine .off rfl rfl rfl hc18 rfl (by rfl) ?_
   refine .v (f_pick_false (by rfl) hc18) rfl (.c rfl (.c rfl .nil)) .nil ?_
   refine .m rfl ?_
   refine .off rfl rfl rfl rfl rfl (by rfl) ?_
   refine .off rfl rfl rfl rfl rfl (by rfl) ?_
   refine .off rfl rfl rfl rfl rfl (by rfl) ?_
   refine .v (f_pick_false (by rfl) rfl) rfl (.c rfl (.c rfl .nil)) .nil ?_
   refine .m rfl ?_
   refine .off rfl rfl rfl rfl rfl (by rfl) ?_
   refine .off rfl rfl rfl rfl rfl (by rfl) ?_
   refine .off rfl rfl rfl rfl rfl (by rfl) ?_
   refine .off rfl rfl rfl rfl rfl (by rfl) ?_
   refine .v (f_pick_false (by rfl) rfl) rfl (.c rfl (.c rfl .nil)) .nil ?_
   refine .a rfl ?_
   refine .nil ?_
   obtain rfl := Option.some.inj h
   refine aq_weak (s' := ⟨[(0, .d (.val (.bool false)))], [], []⟩) id hb0 (.keep rfl .nil) .nil rfl (by rfl) ?_
   exact jq
  replace h := ite_f hc17 h
  refine .off rfl rfl rfl hc17 rfl (by rfl) ?_
  refine .off rfl rfl rfl hc17 rfl (by rfl) ?_
  refine .v (f_pick_false (by rfl) hc17) rfl (.c rfl (.c rfl .nil)) .nil ?_
  refine .m rfl ?_
  refine .off rfl rfl rfl rfl rfl (by rfl) ?_
  refine .off rfl rfl rfl rfl rfl (by rfl) ?_
  refine .v (f_pick_false (by rfl) rfl) rfl (.c rfl (.c rfl .nil)) .nil ?_
  refine .m rfl ?_
  refine .off rfl rfl rfl rfl rfl (by rfl) ?_
  refine .off rfl rfl rfl rfl rfl (by rfl) ?_
  refine .off rfl rfl rfl rfl rfl (by rfl) ?_
  refine .v (f_pick_false (by rfl) rfl) rfl (.c rfl (.c rfl .nil)) .nil ?_
  refine .m rfl ?_
  refine .off rfl rfl rfl rfl rfl (by rfl) ?_
  refine .off rfl rfl rfl rfl rfl (by rfl) ?_
  refine .off rfl rfl rfl rfl rfl (by rfl) ?_
  refine .off rfl rfl rfl rfl rfl (by rfl) ?_
  refine .v (f_pick_false (by rfl) rfl) rfl (.c rfl (.c rfl .nil)) .nil ?_
  refine .a rfl ?_
  refine .nil ?_
  obtain rfl := Option.some.inj h
  refine aq_weak (s' := ⟨[(0, .d (.val (.bool false)))], [], []⟩) id hb0 (.keep rfl .nil) .nil rfl (by rfl) ?_
  exact jq
 refine aq_then ?_
 refine aw_ret ?_
 obtain rfl := Option.some.inj h
 exact aq_finp hb0 rfl (.tmp rfl (by rfl) .nil) (by rfl) rfl ⟨rfl, rfl⟩

/- 11: beadroll/beadrolllaw20.ShardRuns -/
def F11_beadrolllaw20_ShardRuns_s0 (n : Nat) (a0 : GShard) (a1 : GTree) (y11 : GShard × (List GTx) × Int) (z0_0 : Int) : Option ((Int) ⊕ ((Unit) ⊕ (Unit))) :=
  (if (decide (z0_0 < ((y11.2.1).length : Int))) = true then ((rd y11.2.1 z0_0).bind fun (x19 : GTx) => ((F39_tx_From n x19).bind fun (y22 : (List Int)) => ((F64_acct_Get n a1 y22).bind fun (y24 : GAccount × Int) => (((if (decide (z0_0 > (0 : Int))) = true then ((rd y11.2.1 (IntKind.i64.wrap (z0_0 - (1 : Int)))).bind fun (x27 : GTx) => ((F39_tx_From n x27).bind fun (y30 : (List Int)) => some (decide (y30 = y22)))) else some false)).bind fun (o32 : Bool) => (if o32 = true then ((rd y11.2.1 (IntKind.i64.wrap (z0_0 - (1 : Int)))).bind fun (x34 : GTx) => ((rd y11.2.1 z0_0).bind fun (x37 : GTx) => ((F51_beadrolllaw20_find n a0 y22 x37.Nonce).bind fun (y40 : GTx × Bool) => ((rd y11.2.1 z0_0).bind fun (x42 : GTx) => ((F51_beadrolllaw20_find n y11.1 y22 x42.Nonce).bind fun (y45 : GTx × Bool) => (((if (y24.2 != (0 : Int)) = true then some true else ((rd y11.2.1 z0_0).bind fun (x48 : GTx) => (if (x48.Nonce != (({ y24.1 with Nonce := (IntKind.u64.wrap (x34.Nonce + (1 : Int))) }).Nonce)) = true then some true else (if (!y40.2) = true then some true else ((rd y11.2.1 z0_0).bind fun (x53 : GTx) => (if (!(decide (y40.1 = x53))) = true then some true else some y45.2))))))).bind fun (o57 : Bool) => (if o57 = true then some (.inr (.inr ())) else some (.inl (IntKind.i64.wrap (z0_0 + (1 : Int))))))))))) else ((rd y11.2.1 z0_0).bind fun (x60 : GTx) => ((F51_beadrolllaw20_find n a0 y22 x60.Nonce).bind fun (y63 : GTx × Bool) => ((rd y11.2.1 z0_0).bind fun (x65 : GTx) => ((F51_beadrolllaw20_find n y11.1 y22 x65.Nonce).bind fun (y68 : GTx × Bool) => (((if (y24.2 != (0 : Int)) = true then some true else ((rd y11.2.1 z0_0).bind fun (x71 : GTx) => (if (x71.Nonce != y24.1.Nonce) = true then some true else (if (!y63.2) = true then some true else ((rd y11.2.1 z0_0).bind fun (x76 : GTx) => (if (!(decide (y63.1 = x76))) = true then some true else some y68.2))))))).bind fun (o80 : Bool) => (if o80 = true then some (.inr (.inr ())) else some (.inl (IntKind.i64.wrap (z0_0 + (1 : Int))))))))))))))) else some (.inr (.inl ())))
def F11_beadrolllaw20_ShardRuns_s2 (n : Nat) (a0 : GShard) (y11 : GShard × (List GTx) × Int) (z1_0 : Int) (y90 : GAccount × Int) (z2_0 : Int) : Option ((Int) ⊕ ((Unit) ⊕ (Unit))) :=
  ((rd y11.1.Lines z1_0).bind fun (x92 : GLine) => (if (decide (z2_0 < ((x92.Txs).length : Int))) = true then ((rd y11.1.Lines z1_0).bind fun (x96 : GLine) => ((rd x96.Txs z2_0).bind fun (x99 : GTx) => ((rd y11.1.Lines z1_0).bind fun (x102 : GLine) => ((F51_beadrolllaw20_find n a0 x102.From x99.Nonce).bind fun (y105 : GTx × Bool) => (((if (y90.2 != (0 : Int)) = true then some true else (if (decide (x99.Nonce < y90.1.Nonce)) = true then some true else (if (!y105.2) = true then some true else some (!(decide (y105.1 = x99))))))).bind fun (o110 : Bool) => (if o110 = true then some (.inr (.inr ())) else some (.inl (IntKind.i64.wrap (z2_0 + (1 : Int)))))))))) else some (.inr (.inl ()))))
def F11_beadrolllaw20_ShardRuns_s1 (n : Nat) (a0 : GShard) (a1 : GTree) (y11 : GShard × (List GTx) × Int) (z1_0 : Int) : Option ((Int) ⊕ ((Unit) ⊕ (Unit))) :=
  (if (decide (z1_0 < ((y11.1.Lines).length : Int))) = true then ((rd y11.1.Lines z1_0).bind fun (x87 : GLine) => ((F64_acct_Get n a1 x87.From).bind fun (y90 : GAccount × Int) => ((loopF (fun (z : Int) => F11_beadrolllaw20_ShardRuns_s2 n a0 y11 z1_0 y90 z) n (0 : Int)).bind (Sum.elim (fun (j113 : Unit) => some (.inl (IntKind.i64.wrap (z1_0 + (1 : Int))))) (fun (j113 : Unit) => some (.inr (.inr ()))))))) else some (.inr (.inl ())))
def F11_beadrolllaw20_ShardRuns (n : Nat) (a0 : GShard) (a1 : GTree) (a2 : Int) : Option (Bool) :=
  ((F48_beadrolllaw20_alive n ).bind fun (y1 : Bool) => ((((F49_beadrollref20_Great n a0).bind fun (y3 : Bool) => (if y3 = true then some true else ((F62_beadrollref06_Great n a1 (600 : Int)).bind fun (y6 : Bool) => (if y6 = true then some true else some (!y1)))))).bind fun (o9 : Bool) => (if o9 = true then some y1 else ((F65_shard_Draw n a0 a1 a2).bind fun (y11 : GShard × (List GTx) × Int) => (if (y11.2.2 != (0 : Int)) = true then (((if y1 = true then (if (((y11.1.Lines).length : Int) == (0 : Int)) = true then some (((y11.2.1).length : Int) == (0 : Int)) else some false) else some false)).bind fun (o16 : Bool) => some o16) else ((loopF (fun (z : Int) => F11_beadrolllaw20_ShardRuns_s0 n a0 a1 y11 z) n (0 : Int)).bind (Sum.elim (fun (j84 : Unit) => ((loopF (fun (z : Int) => F11_beadrolllaw20_ShardRuns_s1 n a0 a1 y11 z) n (0 : Int)).bind (Sum.elim (fun (j115 : Unit) => (((if y1 = true then (if (decide (((y11.2.1).length : Int) ≤ a2)) = true then ((F52_shard_Check n y11.1).bind fun (y119 : Int) => some (y119 == (0 : Int))) else (if (((y11.2.1).length : Int) == (0 : Int)) = true then ((F52_shard_Check n y11.1).bind fun (y122 : Int) => some (y122 == (0 : Int))) else some false)) else some false)).bind fun (o124 : Bool) => some o124)) (fun (j115 : Unit) => some false)))) (fun (j84 : Unit) => some false))))))))
theorem F11_beadrolllaw20_ShardRuns_ok {n : Nat} {a0 : GShard} {a1 : GTree} {a2 : Int} {r : Bool} (h : F11_beadrolllaw20_ShardRuns n a0 a1 a2 = some r) :
    ACall Tryd.prog GS 11 [.d (eGShard a0), .d (eGTree a1), .d (.val (.int .i64 a2))] [] (fun r' hp' => r' = .d (.val (.bool r)) ∧ hp' = []) := by
 refine acall_of_body mixed Tryd.func11 rfl (by rfl) ?_
 intro C hro hgl hb0
 unfold F11_beadrolllaw20_ShardRuns at h
 refine aw_rs ?_
 refine .n (f_box 3 (by rfl) (by rfl)) rfl (.c rfl .nil) rfl ?_
 refine .n (f_box 4 (by rfl) (by rfl)) rfl (.c rfl .nil) rfl ?_
 refine .a rfl ?_
 refine .z ?_
 obtain ⟨y1, hy2, h⟩ := bind_some h
 refine .v (f_callP hgl (by rfl) en48 rfl (by rfl) (by rfl) (by rfl) (F48_beadrolllaw20_alive_ok hy2)) rfl .nil .nil ?_
 refine .a rfl ?_
 refine .nil (aq_then ?_)
 refine aw_seq ?_
 refine aw_seq ?_
 obtain ⟨o9, ho126, h⟩ := bind_some h
 refine aw_join (.normal) ⟨[(2, .d (.val (.int .i64 a2))), (3, .ptr 3 0 []), (4, .ptr 4 0 []), (7, .d (.val (.bool y1))), (36, .d (.val (.bool o9)))], [(3, .av (.d (eGShard a0))), (4, .av (.d (eGTree a1)))], []⟩ ?_ ?_
 ·replace h := ho126
  refine aw_r ?_
  refine .l 3 0 [] (.d (eGShard a0)) (.d (eGShard a0)) ty74 ?_
  obtain ⟨y3, hy4, h⟩ := bind_some h
  refine .v (f_callP hgl (by rfl) en49 rfl (by rfl) (by rfl) (by rfl) (F49_beadrollref20_Great_ok hy4)) rfl (.c rfl .nil) .nil ?_
  refine .m rfl ?_
  rcases Bool.eq_false_or_eq_true y3 with hc5 | hc5
  ·replace h := ite_t hc5 h
   refine .off rfl rfl rfl hc5 rfl (by rfl) ?_
   refine .off rfl rfl rfl hc5 rfl (by rfl) ?_
   refine .v (f_pick_true (by rfl) hc5) rfl (.c rfl (.c rfl .nil)) .nil ?_
   refine .m rfl ?_
   refine .off rfl rfl rfl rfl rfl (by rfl) ?_
   refine .off rfl rfl rfl rfl rfl (by rfl) ?_
   refine .v (f_pick_true (by rfl) rfl) rfl (.c rfl (.c rfl .nil)) .nil ?_
   refine .nil ?_
   obtain rfl := Option.some.inj h
   refine aq_weak (s' := ⟨[(2, .d (.val (.int .i64 a2))), (3, .ptr 3 0 []), (4, .ptr 4 0 []), (7, .d (.val (.bool y1))), (36, .d (.val (.bool true)))], [(3, .av (.d (eGShard a0))), (4, .av (.d (eGTree a1)))], []⟩) id hb0 (.keep rfl (.keep rfl (.keep rfl (.keep rfl (.keep rfl .nil))))) (.keep rfl (.keep rfl .nil)) rfl (by rfl) ?_
   exact jq
  replace h := ite_f hc5 h
  refine .gv (f_load (n := 0) (o := 4) (off := 0) (p := []) (c := .d (eGTree a1)) (z := .d (eGTree a1)) (by rfl) rfl ty90 (by rfl)) rfl rfl rfl hc5 (.c rfl .nil) (.cons rfl .nil) ?_
  obtain ⟨y6, hy7, h⟩ := bind_some h
  refine .gv (f_callP hgl (by rfl) en62 rfl (by rfl) (by rfl) (by rfl) (F62_beadrollref06_Great_ok hy7)) rfl rfl rfl hc5 (.c rfl (.c rfl .nil)) .nil ?_
  refine .v (f_pick_false (by rfl) hc5) rfl (.c rfl (.c rfl .nil)) .nil ?_
  refine .m rfl ?_
  rcases Bool.eq_false_or_eq_true y6 with hc8 | hc8
  ·replace h := ite_t hc8 h
   refine .off rfl rfl rfl hc8 rfl (by rfl) ?_
   refine .off rfl rfl rfl hc8 rfl (by rfl) ?_
   refine .v (f_pick_true (by rfl) hc8) rfl (.c rfl (.c rfl .nil)) .nil ?_
   refine .nil ?_
   obtain rfl := Option.some.inj h
   refine aq_weak (s' := ⟨[(2, .d (.val (.int .i64 a2))), (3, .ptr 3 0 []), (4, .ptr 4 0 []), (7, .d (.val (.bool y1))), (36, .d (.val (.bool true)))], [(3, .av (.d (eGShard a0))), (4, .av (.d (eGTree a1)))], []⟩) id hb0 (.keep rfl (.keep rfl (.keep rfl (.keep rfl (.keep rfl .nil))))) (.keep rfl (.keep rfl .nil)) rfl (by rfl) ?_
   exact jq
  replace h := ite_f hc8 h
  refine .gv (f_move (by rfl)) rfl rfl rfl hc8 (.c rfl .nil) .nil ?_
  refine .gv (f_not (by rfl)) rfl rfl rfl hc8 (.c rfl .nil) .nil ?_
  refine .v (f_pick_false (by rfl) hc8) rfl (.c rfl (.c rfl .nil)) .nil ?_
  refine .nil ?_
  obtain rfl := Option.some.inj h
  refine aq_weak (s' := ⟨[(2, .d (.val (.int .i64 a2))), (3, .ptr 3 0 []), (4, .ptr 4 0 []), (7, .d (.val (.bool y1))), (36, .d (.val (.bool (!y1))))], [(3, .av (.d (eGShard a0))), (4, .av (.d (eGTree a1)))], []⟩) id hb0 (.keep rfl (.keep rfl (.keep rfl (.keep rfl (.keep rfl .nil))))) (.keep rfl (.keep rfl .nil)) rfl (by rfl) ?_
  exact jq
 refine aq_then ?_
 refine aw_cond rfl (fun hc10 => ?_) (fun hc10 => ?_)
 ·replace h := ite_t hc10 h
  refine aw_rs ?_
  refine .m rfl ?_
  refine .a rfl ?_
  refine .nil (aq_then ?_)
  refine aw_ret ?_
  refine aq_then_ret ?_
  obtain rfl := Option.some.inj h
  exact aq_finp hb0 rfl (.tmp rfl (by rfl) .nil) (by rfl) rfl ⟨rfl, rfl⟩
 replace h := ite_f hc10 h
 refine aw_skip ?_
 refine aq_then ?_
 refine aw_rs ?_
 refine .l 3 0 [] (.d (eGShard a0)) (.d (eGShard a0)) ty74 ?_
 refine .l 4 0 [] (.d (eGTree a1)) (.d (eGTree a1)) ty90 ?_
 refine .m rfl ?_
 obtain ⟨y11, hy12, h⟩ := bind_some h
 refine .v (f_callP hgl (by rfl) en65 rfl (by rfl) (by rfl) (by rfl) (F65_shard_Draw_ok hy12)) rfl (.c rfl (.c rfl (.c rfl .nil))) .nil ?_
 refine .m rfl ?_
 refine .v (f_extract (by rfl) rfl) rfl (.c rfl .nil) .nil ?_
 refine .v (f_extract (by rfl) rfl) rfl (.c rfl .nil) .nil ?_
 refine .v (f_extract (by rfl) rfl) rfl (.c rfl .nil) .nil ?_
 refine .n (f_alloc 8 (by rfl) zrv74) rfl .nil rfl ?_
 refine .s (f_store (n := 0) (o := 8) (off := 0) (p := []) (c := .st [.d (.val (.slice none 0 0))]) (old := .st [.d (.val (.slice none 0 0))]) (z := .d (eGShard y11.1)) (c' := .d (eGShard y11.1)) rfl rfl (by rfl) ty74 (by rfl)) rfl (.c rfl (.c rfl .nil)) (.cons rfl .nil) ?_
 refine .a rfl ?_
 refine .a rfl ?_
 refine .nil (aq_then ?_)
 refine aw_seq ?_
 refine aw_rs ?_
 refine .m rfl ?_
 refine .b rfl rfl rfl ?_
 refine .nil (aq_then ?_)
 refine aw_cond rfl (fun hc13 => ?_) (fun hc13 => ?_)
 ·replace h := ite_t hc13 h
  refine aw_seq ?_
  obtain ⟨o16, ho17, h⟩ := bind_some h
  refine aw_join (.normal) ⟨[(6, .d (.val (.bool o16)))], [], []⟩ ?_ ?_
  ·replace h := ho17
   refine aw_r ?_
   refine .m rfl ?_
   refine .m rfl ?_
   rcases Bool.eq_false_or_eq_true y1 with hc14 | hc14
   ·replace h := ite_t hc14 h
    refine .gv (f_fieldAddr (n := 0) (by rfl) fl74_0 (by decide)) rfl rfl rfl hc14 (.c rfl .nil) .nil ?_
    refine .gv (f_load (n := 0) (o := 8) (off := (0 + 0)) (p := [0]) (c := .d (eGShard y11.1)) (z := .d (eL72 y11.1.Lines)) (by rfl) rfl ty72 (by rfl)) rfl rfl rfl hc14 (.c rfl .nil) (.cons rfl .nil) ?_
    refine .gv (f_lenD (n := (y11.1.Lines).length) (by rfl) sl72 rfl (by simp)) rfl rfl rfl hc14 (.c rfl .nil) .nil ?_
    refine .gv (f_binI (by rfl) rfl (by rfl)) rfl rfl rfl hc14 (.c rfl (.c rfl .nil)) .nil ?_
    refine .v (f_pick_true (by rfl) hc14) rfl (.c rfl (.c rfl .nil)) .nil ?_
    refine .m rfl ?_
    rcases Bool.eq_false_or_eq_true (((y11.1.Lines).length : Int) == (0 : Int)) with hc15 | hc15
    ·replace h := ite_t hc15 h
     refine .gv (f_move (by rfl)) rfl rfl rfl hc15 (.c rfl .nil) .nil ?_
     refine .gv (f_lenD (n := (y11.2.1).length) (by rfl) sl24 rfl (by simp)) rfl rfl rfl hc15 (.c rfl .nil) .nil ?_
     refine .gv (f_binI (by rfl) rfl (by rfl)) rfl rfl rfl hc15 (.c rfl (.c rfl .nil)) .nil ?_
     refine .v (f_pick_true (by rfl) hc15) rfl (.c rfl (.c rfl .nil)) .nil ?_
     refine .a rfl ?_
     refine .nil ?_
     obtain rfl := Option.some.inj h
     refine aq_weak (s' := ⟨[(6, .d (.val (.bool (((y11.2.1).length : Int) == (0 : Int)))))], [], []⟩) id hb0 (.keep rfl .nil) .nil rfl (by rfl) ?_
     exact jq
    replace h := ite_f hc15 h
    refine .off rfl rfl rfl hc15 rfl (by rfl) ?_
    refine .off rfl rfl rfl hc15 rfl (by rfl) ?_
    refine .off rfl rfl rfl hc15 rfl (by rfl) ?_
    refine .v (f_pick_false (by rfl) hc15) rfl (.c rfl (.c rfl .nil)) .nil ?_
    refine .a rfl ?_
    refine .nil ?_
    obtain rfl := Option.some.inj h
    refine aq_weak (s' := ⟨[(6, .d (.val (.bool false)))], [], []⟩) id hb0 (.keep rfl .nil) .nil rfl (by rfl) ?_
    exact jq
   replace h := ite_f hc14 h
   refine .off rfl rfl rfl hc14 rfl (by rfl) ?_
   refine .off rfl rfl rfl hc14 rfl (by rfl) ?_
   refine .off rfl rfl rfl hc14 rfl (by rfl) ?_
   refine .off rfl rfl rfl hc14 rfl (by rfl) ?_
   refine .v (f_pick_false (by rfl) hc14) rfl (.c rfl (.c rfl .nil)) .nil ?_
   refine .m rfl ?_
   refine .off rfl rfl rfl rfl rfl (by rfl) ?_
   refine .off rfl rfl rfl rfl rfl (by rfl) ?_
   refine .off rfl rfl rfl rfl rfl (by rfl) ?_
   refine .v (f_pick_false (by rfl) rfl) rfl (.c rfl (.c rfl .nil)) .nil ?_
   refine .a rfl ?_
   refine .nil ?_
   obtain rfl := Option.some.inj h
   refine aq_weak (s' := ⟨[(6, .d (.val (.bool false)))], [], []⟩) id hb0 (.keep rfl .nil) .nil rfl (by rfl) ?_
   exact jq
  refine aq_then ?_
  refine aw_ret ?_
  refine aq_then_ret ?_
  obtain rfl := Option.some.inj h
  exact aq_finp hb0 rfl (.tmp rfl (by rfl) .nil) (by rfl) rfl ⟨rfl, rfl⟩
 replace h := ite_f hc13 h
 refine aw_skip ?_
 refine aq_then ?_
 refine aw_seq ?_
 refine aw_rs ?_
 refine .a rfl ?_
 refine .nil (aq_then ?_)
 refine aw_block ?_
 refine aw_weak (s' := ⟨[(2, .d (.val (.int .i64 a2))), (3, .ptr 3 0 []), (4, .ptr 4 0 []), (7, .d (.val (.bool y1))), (8, .ptr 8 0 []), (9, .d (eL24 y11.2.1)), (11, .d (.val (.int .i64 (0 : Int))))], [(3, .av (.d (eGShard a0))), (4, .av (.d (eGTree a1))), (8, .av (.d (eGShard y11.1)))], []⟩) id hb0 (.keep rfl (.keep rfl (.keep rfl (.keep rfl (.keep rfl (.keep rfl (.keep rfl .nil))))))) (.keep rfl (.keep rfl (.keep rfl .nil))) rfl (by rfl) ?_
 obtain ⟨o84, ho85, h⟩ := bind_some h
 refine aw_loopX (σ := Int) (fun z => ⟨[(2, .d (.val (.int .i64 a2))), (3, .ptr 3 0 []), (4, .ptr 4 0 []), (7, .d (.val (.bool y1))), (8, .ptr 8 0 []), (9, .d (eL24 y11.2.1)), (11, .d (.val (.int .i64 z)))], [(3, .av (.d (eGShard a0))), (4, .av (.d (eGTree a1))), (8, .av (.d (eGShard y11.1)))], []⟩) (Sum.elim (fun _ => .exit 0) (fun _ => .ret)) (Sum.elim (fun j84 => ⟨[(2, .d (.val (.int .i64 a2))), (3, .ptr 3 0 []), (4, .ptr 4 0 []), (7, .d (.val (.bool y1))), (8, .ptr 8 0 []), (9, .d (eL24 y11.2.1))], [(3, .av (.d (eGShard a0))), (4, .av (.d (eGTree a1))), (8, .av (.d (eGShard y11.1)))], []⟩) (fun j84 => ⟨[(6, .d (.val (.bool false)))], [], []⟩)) ho85 (by intro b; rcases b with _ | _ <;> rfl) ?_ ?_
 ·clear h ho85
  intro z0_0 o h
  change F11_beadrolllaw20_ShardRuns_s0 n a0 a1 y11 z0_0 = some o at h
  unfold F11_beadrolllaw20_ShardRuns_s0 at h
  show AW _ _ _ ⟨[(2, .d (.val (.int .i64 a2))), (3, .ptr 3 0 []), (4, .ptr 4 0 []), (7, .d (.val (.bool y1))), (8, .ptr 8 0 []), (9, .d (eL24 y11.2.1)), (11, .d (.val (.int .i64 z0_0)))], [(3, .av (.d (eGShard a0))), (4, .av (.d (eGTree a1))), (8, .av (.d (eGShard y11.1)))], []⟩
  refine aw_seq ?_
  refine aw_rs ?_
  refine .m rfl ?_
  refine .m rfl ?_
  refine .v (f_lenD (n := (y11.2.1).length) (by rfl) sl24 rfl (by simp)) rfl (.c rfl .nil) .nil ?_
  refine .b rfl rfl rfl ?_
  refine .nil (aq_then ?_)
  refine aw_cond rfl (fun hc18 => ?_) (fun hc18 => ?_)
  ·replace h := ite_t hc18 h
   refine aw_skip ?_
   refine aq_then ?_
   refine aw_seq ?_
   refine aw_block ?_
   refine aw_rs ?_
   refine .m rfl ?_
   refine .m rfl ?_
   obtain ⟨x19, hx20, h⟩ := bind_some h
   obtain ⟨hx21, hx20⟩ := rd_some hx20
   refine .v (f_indexS (by rfl) sl24 hx21 (rd_map _ hx20)) rfl (.c rfl (.c rfl .nil)) .nil ?_
   refine .v (f_loadR (z := (eGTx x19)) (by rfl) ty36) rfl (.c rfl .nil) .nil ?_
   obtain ⟨y22, hy23, h⟩ := bind_some h
   refine .v (f_callP hgl (by rfl) en39 rfl (by rfl) (by rfl) (by rfl) (F39_tx_From_ok hy23)) rfl (.c rfl .nil) .nil ?_
   refine .n (f_alloc 12 (by rfl) zr23) rfl .nil rfl ?_
   refine .s (f_store (n := 0) (o := 12) (off := 0) (p := []) (c := .d (eA22 (List.replicate 32 (0 : Int)))) (old := .d (eA22 (List.replicate 32 (0 : Int)))) (z := .d (eA22 y22)) (c' := .d (eA22 y22)) rfl rfl (by rfl) ty23 (by rfl)) rfl (.c rfl (.c rfl .nil)) (.cons rfl .nil) ?_
   refine .z ?_
   refine .l 4 0 [] (.d (eGTree a1)) (.d (eGTree a1)) ty90 ?_
   refine .l 12 0 [] (.d (eA22 y22)) (.d (eA22 y22)) ty23 ?_
   obtain ⟨y24, hy25, h⟩ := bind_some h
   refine .v (f_callP hgl (by rfl) en64 rfl (by rfl) (by rfl) (by rfl) (F64_acct_Get_ok hy25)) rfl (.c rfl (.c rfl .nil)) .nil ?_
   refine .m rfl ?_
   refine .v (f_extract (by rfl) rfl) rfl (.c rfl .nil) .nil ?_
   refine .v (f_extract (by rfl) rfl) rfl (.c rfl .nil) .nil ?_
   refine .n (f_alloc 13 (by rfl) zr95) rfl .nil rfl ?_
   refine .s (f_store (n := 0) (o := 13) (off := 0) (p := []) (c := .d (eGAccount (⟨(0 : Int), (0 : Int)⟩ : GAccount))) (old := .d (eGAccount (⟨(0 : Int), (0 : Int)⟩ : GAccount))) (z := .d (eGAccount y24.1)) (c' := .d (eGAccount y24.1)) rfl rfl (by rfl) ty95 (by rfl)) rfl (.c rfl (.c rfl .nil)) (.cons rfl .nil) ?_
   refine .a rfl ?_
   refine .nil (aq_then ?_)
   refine aw_seq ?_
   refine aw_seq ?_
   obtain ⟨o32, ho83, h⟩ := bind_some h
   refine aw_join (.normal) ⟨[(2, .d (.val (.int .i64 a2))), (3, .ptr 3 0 []), (4, .ptr 4 0 []), (7, .d (.val (.bool y1))), (8, .ptr 8 0 []), (9, .d (eL24 y11.2.1)), (11, .d (.val (.int .i64 z0_0))), (12, .ptr 12 0 []), (13, .ptr 13 0 []), (14, .d (.val (.int .i64 y24.2))), (88, .d (.val (.bool o32)))], [(3, .av (.d (eGShard a0))), (4, .av (.d (eGTree a1))), (8, .av (.d (eGShard y11.1))), (12, .av (.d (eA22 y22))), (13, .av (.d (eGAccount y24.1)))], []⟩ ?_ ?_
   ·replace h := ho83
    refine aw_rd ?_
    refine .v (f_move (by rfl)) rfl (.c rfl .nil) .nil ?_
    refine .v (f_binI (by rfl) rfl (by rfl)) rfl (.c rfl (.c rfl .nil)) .nil ?_
    refine .v (f_move (by rfl)) rfl (.c rfl .nil) .nil ?_
    rcases Bool.eq_false_or_eq_true (decide (z0_0 > (0 : Int))) with hc26 | hc26
    ·replace h := ite_t hc26 h
     refine .gv (f_move (by rfl)) rfl rfl rfl hc26 (.c rfl .nil) .nil ?_
     refine .gv (f_move (by rfl)) rfl rfl rfl hc26 (.c rfl .nil) .nil ?_
     refine .gv (f_binI (by rfl) rfl (by rfl)) rfl rfl rfl hc26 (.c rfl (.c rfl .nil)) .nil ?_
     obtain ⟨x27, hx28, h⟩ := bind_some h
     obtain ⟨hx29, hx28⟩ := rd_some hx28
     refine .gv (f_indexS (by rfl) sl24 hx29 (rd_map _ hx28)) rfl rfl rfl hc26 (.c rfl (.c rfl .nil)) .nil ?_
     refine .gv (f_loadR (z := (eGTx x27)) (by rfl) ty36) rfl rfl rfl hc26 (.c rfl .nil) .nil ?_
     obtain ⟨y30, hy31, h⟩ := bind_some h
     refine .gv (f_callP hgl (by rfl) en39 rfl (by rfl) (by rfl) (by rfl) (F39_tx_From_ok hy31)) rfl rfl rfl hc26 (.c rfl .nil) .nil ?_
     refine .gv (f_load (n := 0) (o := 12) (off := 0) (p := []) (c := .d (eA22 y22)) (z := .d (eA22 y22)) (by rfl) rfl ty23 (by rfl)) rfl rfl rfl hc26 (.c rfl .nil) (.cons rfl .nil) ?_
     refine .gv (f_eqlT (by rfl) (fit23 _) (fit23 _) (by rfl) (by rfl) gd23 (eq_eA22 _ _)) rfl rfl rfl hc26 (.c rfl (.c rfl .nil)) .nil ?_
     refine .v (f_pick_true (by rfl) hc26) rfl (.c rfl (.c rfl .nil)) .nil ?_
     refine .nil (by kernel_rfl) ?_
     obtain rfl := Option.some.inj h
     refine aq_weak (s' := ⟨[(2, .d (.val (.int .i64 a2))), (3, .ptr 3 0 []), (4, .ptr 4 0 []), (7, .d (.val (.bool y1))), (8, .ptr 8 0 []), (9, .d (eL24 y11.2.1)), (11, .d (.val (.int .i64 z0_0))), (12, .ptr 12 0 []), (13, .ptr 13 0 []), (14, .d (.val (.int .i64 y24.2))), (88, .d (.val (.bool (decide (y30 = y22)))))], [(3, .av (.d (eGShard a0))), (4, .av (.d (eGTree a1))), (8, .av (.d (eGShard y11.1))), (12, .av (.d (eA22 y22))), (13, .av (.d (eGAccount y24.1)))], []⟩) id hb0 (.keep rfl (.keep rfl (.keep rfl (.keep rfl (.keep rfl (.keep rfl (.keep rfl (.keep rfl (.keep rfl (.keep rfl (.keep rfl .nil))))))))))) (.keep rfl (.keep rfl (.keep rfl (.keep rfl (.keep rfl .nil))))) rfl (by rfl) ?_
     exact jq
    replace h := ite_f hc26 h
    refine .off rfl rfl rfl hc26 rfl (by rfl) ?_
    refine .off rfl rfl rfl hc26 rfl (by rfl) ?_
    refine .off rfl rfl rfl hc26 rfl (by rfl) ?_
    refine .off rfl rfl rfl hc26 rfl (by rfl) ?_
    refine .off rfl rfl rfl hc26 rfl (by rfl) ?_
    refine .off rfl rfl rfl hc26 rfl (by rfl) ?_
    refine .off rfl rfl rfl hc26 rfl (by rfl) ?_
    refine .off rfl rfl rfl hc26 rfl (by rfl) ?_
    refine .v (f_pick_false (by rfl) hc26) rfl (.c rfl (.c rfl .nil)) .nil ?_
    refine .nil (by kernel_rfl) ?_
    obtain rfl := Option.some.inj h
    refine aq_weak (s' := ⟨[(2, .d (.val (.int .i64 a2))), (3, .ptr 3 0 []), (4, .ptr 4 0 []), (7, .d (.val (.bool y1))), (8, .ptr 8 0 []), (9, .d (eL24 y11.2.1)), (11, .d (.val (.int .i64 z0_0))), (12, .ptr 12 0 []), (13, .ptr 13 0 []), (14, .d (.val (.int .i64 y24.2))), (88, .d (.val (.bool false)))], [(3, .av (.d (eGShard a0))), (4, .av (.d (eGTree a1))), (8, .av (.d (eGShard y11.1))), (12, .av (.d (eA22 y22))), (13, .av (.d (eGAccount y24.1)))], []⟩) id hb0 (.keep rfl (.keep rfl (.keep rfl (.keep rfl (.keep rfl (.keep rfl (.keep rfl (.keep rfl (.keep rfl (.keep rfl (.keep rfl .nil))))))))))) (.keep rfl (.keep rfl (.keep rfl (.keep rfl (.keep rfl .nil))))) rfl (by rfl) ?_
    exact jq
   refine aq_then ?_
   refine aw_cond rfl (fun hc33 => ?_) (fun hc33 => ?_)
   ·replace h := ite_t hc33 h
    refine aw_r ?_
    refine .m rfl ?_
    refine .m rfl ?_
    refine .b rfl rfl rfl ?_
    obtain ⟨x34, hx35, h⟩ := bind_some h
    obtain ⟨hx36, hx35⟩ := rd_some hx35
    refine .v (f_indexS (by rfl) sl24 hx36 (rd_map _ hx35)) rfl (.c rfl (.c rfl .nil)) .nil ?_
    refine .v (f_fieldAddrR (by rfl) fl36_2 (by decide) rfl) rfl (.c rfl .nil) .nil ?_
    refine .v (f_loadR (z := (.val (.int .u64 x34.Nonce))) (by rfl) ty27) rfl (.c rfl .nil) .nil ?_
    refine .b rfl rfl rfl ?_
    refine .v (f_fieldAddr (n := 0) (by rfl) fl95_0 (by decide)) rfl (.c rfl .nil) .nil ?_
    refine .s (f_store (n := 0) (o := 13) (off := (0 + 0)) (p := [0]) (c := .d (eGAccount y24.1)) (old := .d (.val (.int .u64 y24.1.Nonce))) (z := .d (.val (.int .u64 (IntKind.u64.wrap (x34.Nonce + (1 : Int)))))) (c' := .d (eGAccount ({ y24.1 with Nonce := (IntKind.u64.wrap (x34.Nonce + (1 : Int))) }))) rfl rfl (by rfl) ty27 (by rfl)) rfl (.c rfl (.c rfl .nil)) (.cons rfl .nil) ?_
    refine .nil ?_
    refine aq_then ?_
    refine aw_rds ?_
    refine .v (f_load (n := 0) (o := 3) (off := 0) (p := []) (c := .d (eGShard a0)) (z := .d (eGShard a0)) (by rfl) rfl ty74 (by rfl)) rfl (.c rfl .nil) (.cons rfl .nil) ?_
    refine .v (f_load (n := 0) (o := 12) (off := 0) (p := []) (c := .d (eA22 y22)) (z := .d (eA22 y22)) (by rfl) rfl ty23 (by rfl)) rfl (.c rfl .nil) (.cons rfl .nil) ?_
    refine .v (f_move (by rfl)) rfl (.c rfl .nil) .nil ?_
    refine .v (f_move (by rfl)) rfl (.c rfl .nil) .nil ?_
    obtain ⟨x37, hx38, h⟩ := bind_some h
    obtain ⟨hx39, hx38⟩ := rd_some hx38
    refine .v (f_indexS (by rfl) sl24 hx39 (rd_map _ hx38)) rfl (.c rfl (.c rfl .nil)) .nil ?_
    refine .v (f_fieldAddrR (by rfl) fl36_2 (by decide) rfl) rfl (.c rfl .nil) .nil ?_
    refine .v (f_loadR (z := (.val (.int .u64 x37.Nonce))) (by rfl) ty27) rfl (.c rfl .nil) .nil ?_
    obtain ⟨y40, hy41, h⟩ := bind_some h
    refine .v (f_callP hgl (by rfl) en51 rfl (by rfl) (by rfl) (by rfl) (F51_beadrolllaw20_find_ok hy41)) rfl (.c rfl (.c rfl (.c rfl .nil))) .nil ?_
    refine .v (f_move (by rfl)) rfl (.c rfl .nil) .nil ?_
    refine .v (f_extract (by rfl) rfl) rfl (.c rfl .nil) .nil ?_
    refine .v (f_extract (by rfl) rfl) rfl (.c rfl .nil) .nil ?_
    refine .n (f_alloc 15 (by rfl) zr36) rfl .nil rfl ?_
    refine .s (f_store (n := 0) (o := 15) (off := 0) (p := []) (c := .d (eGTx (⟨(List.replicate 32 (0 : Int)), (List.replicate 32 (0 : Int)), (0 : Int), (0 : Int), (0 : Int), (List.replicate 32 (0 : Int))⟩ : GTx))) (old := .d (eGTx (⟨(List.replicate 32 (0 : Int)), (List.replicate 32 (0 : Int)), (0 : Int), (0 : Int), (0 : Int), (List.replicate 32 (0 : Int))⟩ : GTx))) (z := .d (eGTx y40.1)) (c' := .d (eGTx y40.1)) rfl rfl (by rfl) ty36 (by rfl)) rfl (.c rfl (.c rfl .nil)) (.cons rfl .nil) ?_
    refine .v (f_assign (by rfl)) rfl (.c rfl .nil) .nil ?_
    refine .nil (by kernel_rfl) ?_
    refine aw_rds ?_
    refine .v (f_load (n := 0) (o := 8) (off := 0) (p := []) (c := .d (eGShard y11.1)) (z := .d (eGShard y11.1)) (by rfl) rfl ty74 (by rfl)) rfl (.c rfl .nil) (.cons rfl .nil) ?_
    refine .v (f_load (n := 0) (o := 12) (off := 0) (p := []) (c := .d (eA22 y22)) (z := .d (eA22 y22)) (by rfl) rfl ty23 (by rfl)) rfl (.c rfl .nil) (.cons rfl .nil) ?_
    refine .v (f_move (by rfl)) rfl (.c rfl .nil) .nil ?_
    refine .v (f_move (by rfl)) rfl (.c rfl .nil) .nil ?_
    obtain ⟨x42, hx43, h⟩ := bind_some h
    obtain ⟨hx44, hx43⟩ := rd_some hx43
    refine .v (f_indexS (by rfl) sl24 hx44 (rd_map _ hx43)) rfl (.c rfl (.c rfl .nil)) .nil ?_
    refine .v (f_fieldAddrR (by rfl) fl36_2 (by decide) rfl) rfl (.c rfl .nil) .nil ?_
    refine .v (f_loadR (z := (.val (.int .u64 x42.Nonce))) (by rfl) ty27) rfl (.c rfl .nil) .nil ?_
    obtain ⟨y45, hy46, h⟩ := bind_some h
    refine .v (f_callP hgl (by rfl) en51 rfl (by rfl) (by rfl) (by rfl) (F51_beadrolllaw20_find_ok hy46)) rfl (.c rfl (.c rfl (.c rfl .nil))) .nil ?_
    refine .v (f_move (by rfl)) rfl (.c rfl .nil) .nil ?_
    refine .v (f_extract (by rfl) rfl) rfl (.c rfl .nil) .nil ?_
    refine .v (f_extract (by rfl) rfl) rfl (.c rfl .nil) .nil ?_
    refine .n (f_alloc 17 (by rfl) zr36) rfl .nil rfl ?_
    refine .s (f_store (n := 0) (o := 17) (off := 0) (p := []) (c := .d (eGTx (⟨(List.replicate 32 (0 : Int)), (List.replicate 32 (0 : Int)), (0 : Int), (0 : Int), (0 : Int), (List.replicate 32 (0 : Int))⟩ : GTx))) (old := .d (eGTx (⟨(List.replicate 32 (0 : Int)), (List.replicate 32 (0 : Int)), (0 : Int), (0 : Int), (0 : Int), (List.replicate 32 (0 : Int))⟩ : GTx))) (z := .d (eGTx y45.1)) (c' := .d (eGTx y45.1)) rfl rfl (by rfl) ty36 (by rfl)) rfl (.c rfl (.c rfl .nil)) (.cons rfl .nil) ?_
    refine .v (f_assign (by rfl)) rfl (.c rfl .nil) .nil ?_
    refine .nil (by kernel_rfl) ?_
    refine aw_seq ?_
    obtain ⟨o57, ho59, h⟩ := bind_some h
    refine aw_join (.normal) ⟨[(2, .d (.val (.int .i64 a2))), (3, .ptr 3 0 []), (4, .ptr 4 0 []), (7, .d (.val (.bool y1))), (8, .ptr 8 0 []), (9, .d (eL24 y11.2.1)), (11, .d (.val (.int .i64 z0_0))), (145, .d (.val (.bool o57)))], [(3, .av (.d (eGShard a0))), (4, .av (.d (eGTree a1))), (8, .av (.d (eGShard y11.1)))], []⟩ ?_ ?_
    ·replace h := ho59
     refine aw_rd ?_
     refine .v (f_move (by rfl)) rfl (.c rfl .nil) .nil ?_
     refine .v (f_binI (by rfl) rfl (by rfl)) rfl (.c rfl (.c rfl .nil)) .nil ?_
     refine .v (f_move (by rfl)) rfl (.c rfl .nil) .nil ?_
     rcases Bool.eq_false_or_eq_true (y24.2 != (0 : Int)) with hc47 | hc47
     ·replace h := ite_t hc47 h
      refine .off rfl rfl rfl hc47 rfl (by rfl) ?_
      refine .off rfl rfl rfl hc47 rfl (by rfl) ?_
      refine .off rfl rfl rfl hc47 rfl (by rfl) ?_
      refine .off rfl rfl rfl hc47 rfl (by rfl) ?_
      refine .off rfl rfl rfl hc47 rfl (by rfl) ?_
      refine .off rfl rfl rfl hc47 rfl (by rfl) ?_
      refine .off rfl rfl rfl hc47 rfl (by rfl) ?_
      refine .off rfl rfl rfl hc47 rfl (by rfl) ?_
      refine .v (f_pick_true (by rfl) hc47) rfl (.c rfl (.c rfl .nil)) .nil ?_
      refine .v (f_move (by rfl)) rfl (.c rfl .nil) .nil ?_
      refine .off rfl rfl rfl rfl rfl (by rfl) ?_
      refine .off rfl rfl rfl rfl rfl (by rfl) ?_
      refine .v (f_pick_true (by rfl) rfl) rfl (.c rfl (.c rfl .nil)) .nil ?_
      refine .v (f_move (by rfl)) rfl (.c rfl .nil) .nil ?_
      refine .off rfl rfl rfl rfl rfl (by rfl) ?_
      refine .off rfl rfl rfl rfl rfl (by rfl) ?_
      refine .off rfl rfl rfl rfl rfl (by rfl) ?_
      refine .off rfl rfl rfl rfl rfl (by rfl) ?_
      refine .off rfl rfl rfl rfl rfl (by rfl) ?_
      refine .off rfl rfl rfl rfl rfl (by rfl) ?_
      refine .v (f_pick_true (by rfl) rfl) rfl (.c rfl (.c rfl .nil)) .nil ?_
      refine .v (f_move (by rfl)) rfl (.c rfl .nil) .nil ?_
      refine .off rfl rfl rfl rfl rfl (by rfl) ?_
      refine .v (f_pick_true (by rfl) rfl) rfl (.c rfl (.c rfl .nil)) .nil ?_
      refine .nil (by kernel_rfl) ?_
      obtain rfl := Option.some.inj h
      refine aq_weak (s' := ⟨[(2, .d (.val (.int .i64 a2))), (3, .ptr 3 0 []), (4, .ptr 4 0 []), (7, .d (.val (.bool y1))), (8, .ptr 8 0 []), (9, .d (eL24 y11.2.1)), (11, .d (.val (.int .i64 z0_0))), (145, .d (.val (.bool true)))], [(3, .av (.d (eGShard a0))), (4, .av (.d (eGTree a1))), (8, .av (.d (eGShard y11.1)))], []⟩) id hb0 (.keep rfl (.keep rfl (.keep rfl (.keep rfl (.keep rfl (.keep rfl (.keep rfl (.keep rfl .nil)))))))) (.keep rfl (.keep rfl (.keep rfl .nil))) rfl (by rfl) ?_
      exact jq
     replace h := ite_f hc47 h
     refine .gv (f_move (by rfl)) rfl rfl rfl hc47 (.c rfl .nil) .nil ?_
     refine .gv (f_move (by rfl)) rfl rfl rfl hc47 (.c rfl .nil) .nil ?_
     obtain ⟨x48, hx49, h⟩ := bind_some h
     obtain ⟨hx50, hx49⟩ := rd_some hx49
     refine .gv (f_indexS (by rfl) sl24 hx50 (rd_map _ hx49)) rfl rfl rfl hc47 (.c rfl (.c rfl .nil)) .nil ?_
     refine .gv (f_fieldAddrR (by rfl) fl36_2 (by decide) rfl) rfl rfl rfl hc47 (.c rfl .nil) .nil ?_
     refine .gv (f_loadR (z := (.val (.int .u64 x48.Nonce))) (by rfl) ty27) rfl rfl rfl hc47 (.c rfl .nil) .nil ?_
     refine .gv (f_fieldAddr (n := 0) (by rfl) fl95_0 (by decide)) rfl rfl rfl hc47 (.c rfl .nil) .nil ?_
     refine .gv (f_load (n := 0) (o := 13) (off := (0 + 0)) (p := [0]) (c := .d (eGAccount ({ y24.1 with Nonce := (IntKind.u64.wrap (x34.Nonce + (1 : Int))) }))) (z := .d (.val (.int .u64 (({ y24.1 with Nonce := (IntKind.u64.wrap (x34.Nonce + (1 : Int))) }).Nonce)))) (by rfl) rfl ty27 (by rfl)) rfl rfl rfl hc47 (.c rfl .nil) (.cons rfl .nil) ?_
     refine .gv (f_binI (by rfl) rfl (by rfl)) rfl rfl rfl hc47 (.c rfl (.c rfl .nil)) .nil ?_
     refine .v (f_pick_false (by rfl) hc47) rfl (.c rfl (.c rfl .nil)) .nil ?_
     refine .v (f_move (by rfl)) rfl (.c rfl .nil) .nil ?_
     rcases Bool.eq_false_or_eq_true (x48.Nonce != (({ y24.1 with Nonce := (IntKind.u64.wrap (x34.Nonce + (1 : Int))) }).Nonce)) with hc51 | hc51
     ·replace h := ite_t hc51 h
      refine .off rfl rfl rfl hc51 rfl (by rfl) ?_
      refine .off rfl rfl rfl hc51 rfl (by rfl) ?_
      refine .v (f_pick_true (by rfl) hc51) rfl (.c rfl (.c rfl .nil)) .nil ?_
      refine .v (f_move (by rfl)) rfl (.c rfl .nil) .nil ?_
      refine .off rfl rfl rfl rfl rfl (by rfl) ?_
      refine .off rfl rfl rfl rfl rfl (by rfl) ?_
      refine .off rfl rfl rfl rfl rfl (by rfl) ?_
      refine .off rfl rfl rfl rfl rfl (by rfl) ?_
      refine .off rfl rfl rfl rfl rfl (by rfl) ?_
      refine .off rfl rfl rfl rfl rfl (by rfl) ?_
      refine .v (f_pick_true (by rfl) rfl) rfl (.c rfl (.c rfl .nil)) .nil ?_
      refine .v (f_move (by rfl)) rfl (.c rfl .nil) .nil ?_
      refine .off rfl rfl rfl rfl rfl (by rfl) ?_
      refine .v (f_pick_true (by rfl) rfl) rfl (.c rfl (.c rfl .nil)) .nil ?_
      refine .nil (by kernel_rfl) ?_
      obtain rfl := Option.some.inj h
      refine aq_weak (s' := ⟨[(2, .d (.val (.int .i64 a2))), (3, .ptr 3 0 []), (4, .ptr 4 0 []), (7, .d (.val (.bool y1))), (8, .ptr 8 0 []), (9, .d (eL24 y11.2.1)), (11, .d (.val (.int .i64 z0_0))), (145, .d (.val (.bool true)))], [(3, .av (.d (eGShard a0))), (4, .av (.d (eGTree a1))), (8, .av (.d (eGShard y11.1)))], []⟩) id hb0 (.keep rfl (.keep rfl (.keep rfl (.keep rfl (.keep rfl (.keep rfl (.keep rfl (.keep rfl .nil)))))))) (.keep rfl (.keep rfl (.keep rfl .nil))) rfl (by rfl) ?_
      exact jq
     replace h := ite_f hc51 h
     refine .gv (f_move (by rfl)) rfl rfl rfl hc51 (.c rfl .nil) .nil ?_
     refine .gv (f_not (by rfl)) rfl rfl rfl hc51 (.c rfl .nil) .nil ?_
     refine .v (f_pick_false (by rfl) hc51) rfl (.c rfl (.c rfl .nil)) .nil ?_
     refine .v (f_move (by rfl)) rfl (.c rfl .nil) .nil ?_
     rcases Bool.eq_false_or_eq_true (!y40.2) with hc52 | hc52
     ·replace h := ite_t hc52 h
      refine .off rfl rfl rfl hc52 rfl (by rfl) ?_
      refine .off rfl rfl rfl hc52 rfl (by rfl) ?_
      refine .off rfl rfl rfl hc52 rfl (by rfl) ?_
      refine .off rfl rfl rfl hc52 rfl (by rfl) ?_
      refine .off rfl rfl rfl hc52 rfl (by rfl) ?_
      refine .off rfl rfl rfl hc52 rfl (by rfl) ?_
      refine .v (f_pick_true (by rfl) hc52) rfl (.c rfl (.c rfl .nil)) .nil ?_
      refine .v (f_move (by rfl)) rfl (.c rfl .nil) .nil ?_
      refine .off rfl rfl rfl rfl rfl (by rfl) ?_
      refine .v (f_pick_true (by rfl) rfl) rfl (.c rfl (.c rfl .nil)) .nil ?_
      refine .nil (by kernel_rfl) ?_
      obtain rfl := Option.some.inj h
      refine aq_weak (s' := ⟨[(2, .d (.val (.int .i64 a2))), (3, .ptr 3 0 []), (4, .ptr 4 0 []), (7, .d (.val (.bool y1))), (8, .ptr 8 0 []), (9, .d (eL24 y11.2.1)), (11, .d (.val (.int .i64 z0_0))), (145, .d (.val (.bool true)))], [(3, .av (.d (eGShard a0))), (4, .av (.d (eGTree a1))), (8, .av (.d (eGShard y11.1)))], []⟩) id hb0 (.keep rfl (.keep rfl (.keep rfl (.keep rfl (.keep rfl (.keep rfl (.keep rfl (.keep rfl .nil)))))))) (.keep rfl (.keep rfl (.keep rfl .nil))) rfl (by rfl) ?_
      exact jq
     replace h := ite_f hc52 h
     refine .gv (f_load (n := 0) (o := 15) (off := 0) (p := []) (c := .d (eGTx y40.1)) (z := .d (eGTx y40.1)) (by rfl) rfl ty36 (by rfl)) rfl rfl rfl hc52 (.c rfl .nil) (.cons rfl .nil) ?_
     refine .gv (f_move (by rfl)) rfl rfl rfl hc52 (.c rfl .nil) .nil ?_
     refine .gv (f_move (by rfl)) rfl rfl rfl hc52 (.c rfl .nil) .nil ?_
     obtain ⟨x53, hx54, h⟩ := bind_some h
     obtain ⟨hx55, hx54⟩ := rd_some hx54
     refine .gv (f_indexS (by rfl) sl24 hx55 (rd_map _ hx54)) rfl rfl rfl hc52 (.c rfl (.c rfl .nil)) .nil ?_
     refine .gv (f_loadR (z := (eGTx x53)) (by rfl) ty36) rfl rfl rfl hc52 (.c rfl .nil) .nil ?_
     refine .gv (f_neqT (by rfl) (fit36 _) (fit36 _) (by rfl) (by rfl) gd36 (eq_eGTx _ _)) rfl rfl rfl hc52 (.c rfl (.c rfl .nil)) .nil ?_
     refine .v (f_pick_false (by rfl) hc52) rfl (.c rfl (.c rfl .nil)) .nil ?_
     refine .v (f_move (by rfl)) rfl (.c rfl .nil) .nil ?_
     rcases Bool.eq_false_or_eq_true (!(decide (y40.1 = x53))) with hc56 | hc56
     ·replace h := ite_t hc56 h
      refine .off rfl rfl rfl hc56 rfl (by rfl) ?_
      refine .v (f_pick_true (by rfl) hc56) rfl (.c rfl (.c rfl .nil)) .nil ?_
      refine .nil (by kernel_rfl) ?_
      obtain rfl := Option.some.inj h
      refine aq_weak (s' := ⟨[(2, .d (.val (.int .i64 a2))), (3, .ptr 3 0 []), (4, .ptr 4 0 []), (7, .d (.val (.bool y1))), (8, .ptr 8 0 []), (9, .d (eL24 y11.2.1)), (11, .d (.val (.int .i64 z0_0))), (145, .d (.val (.bool true)))], [(3, .av (.d (eGShard a0))), (4, .av (.d (eGTree a1))), (8, .av (.d (eGShard y11.1)))], []⟩) id hb0 (.keep rfl (.keep rfl (.keep rfl (.keep rfl (.keep rfl (.keep rfl (.keep rfl (.keep rfl .nil)))))))) (.keep rfl (.keep rfl (.keep rfl .nil))) rfl (by rfl) ?_
      exact jq
     replace h := ite_f hc56 h
     refine .gv (f_move (by rfl)) rfl rfl rfl hc56 (.c rfl .nil) .nil ?_
     refine .v (f_pick_false (by rfl) hc56) rfl (.c rfl (.c rfl .nil)) .nil ?_
     refine .nil (by kernel_rfl) ?_
     obtain rfl := Option.some.inj h
     refine aq_weak (s' := ⟨[(2, .d (.val (.int .i64 a2))), (3, .ptr 3 0 []), (4, .ptr 4 0 []), (7, .d (.val (.bool y1))), (8, .ptr 8 0 []), (9, .d (eL24 y11.2.1)), (11, .d (.val (.int .i64 z0_0))), (145, .d (.val (.bool y45.2)))], [(3, .av (.d (eGShard a0))), (4, .av (.d (eGTree a1))), (8, .av (.d (eGShard y11.1)))], []⟩) id hb0 (.keep rfl (.keep rfl (.keep rfl (.keep rfl (.keep rfl (.keep rfl (.keep rfl (.keep rfl .nil)))))))) (.keep rfl (.keep rfl (.keep rfl .nil))) rfl (by rfl) ?_
     exact jq
    refine aq_then ?_
    refine aw_cond rfl (fun hc58 => ?_) (fun hc58 => ?_)
    ·replace h := ite_t hc58 h
     refine aw_rs ?_
     refine .a rfl ?_
     refine .nil (aq_then ?_)
     refine aw_ret ?_
     refine aq_block_ret ?_
     refine aq_then_ret ?_
     obtain rfl := Option.some.inj h
     refine aq_weak (s' := ⟨[(6, .d (.val (.bool false)))], [], []⟩) id hb0 (.keep rfl .nil) .nil rfl (by rfl) ?_
     exact jq
    replace h := ite_f hc58 h
    refine aw_skip ?_
    refine aq_block ?_
    refine aq_then ?_
    refine aw_r ?_
    refine .m rfl ?_
    refine .b rfl rfl rfl ?_
    refine .a rfl ?_
    refine .nil ?_
    obtain rfl := Option.some.inj h
    refine aq_weak (s' := ⟨[(2, .d (.val (.int .i64 a2))), (3, .ptr 3 0 []), (4, .ptr 4 0 []), (7, .d (.val (.bool y1))), (8, .ptr 8 0 []), (9, .d (eL24 y11.2.1)), (11, .d (.val (.int .i64 (IntKind.i64.wrap (z0_0 + (1 : Int))))))], [(3, .av (.d (eGShard a0))), (4, .av (.d (eGTree a1))), (8, .av (.d (eGShard y11.1)))], []⟩) id hb0 (.keep rfl (.keep rfl (.keep rfl (.keep rfl (.keep rfl (.keep rfl (.keep rfl .nil))))))) (.keep rfl (.keep rfl (.keep rfl .nil))) rfl (by rfl) ?_
    exact jq
   replace h := ite_f hc33 h
   refine aw_skip ?_
   refine aq_then ?_
   refine aw_rds ?_
   refine .v (f_load (n := 0) (o := 3) (off := 0) (p := []) (c := .d (eGShard a0)) (z := .d (eGShard a0)) (by rfl) rfl ty74 (by rfl)) rfl (.c rfl .nil) (.cons rfl .nil) ?_
   refine .v (f_load (n := 0) (o := 12) (off := 0) (p := []) (c := .d (eA22 y22)) (z := .d (eA22 y22)) (by rfl) rfl ty23 (by rfl)) rfl (.c rfl .nil) (.cons rfl .nil) ?_
   refine .v (f_move (by rfl)) rfl (.c rfl .nil) .nil ?_
   refine .v (f_move (by rfl)) rfl (.c rfl .nil) .nil ?_
   obtain ⟨x60, hx61, h⟩ := bind_some h
   obtain ⟨hx62, hx61⟩ := rd_some hx61
   refine .v (f_indexS (by rfl) sl24 hx62 (rd_map _ hx61)) rfl (.c rfl (.c rfl .nil)) .nil ?_
   refine .v (f_fieldAddrR (by rfl) fl36_2 (by decide) rfl) rfl (.c rfl .nil) .nil ?_
   refine .v (f_loadR (z := (.val (.int .u64 x60.Nonce))) (by rfl) ty27) rfl (.c rfl .nil) .nil ?_
   obtain ⟨y63, hy64, h⟩ := bind_some h
   refine .v (f_callP hgl (by rfl) en51 rfl (by rfl) (by rfl) (by rfl) (F51_beadrolllaw20_find_ok hy64)) rfl (.c rfl (.c rfl (.c rfl .nil))) .nil ?_
   refine .v (f_move (by rfl)) rfl (.c rfl .nil) .nil ?_
   refine .v (f_extract (by rfl) rfl) rfl (.c rfl .nil) .nil ?_
   refine .v (f_extract (by rfl) rfl) rfl (.c rfl .nil) .nil ?_
   refine .n (f_alloc 15 (by rfl) zr36) rfl .nil rfl ?_
   refine .s (f_store (n := 0) (o := 15) (off := 0) (p := []) (c := .d (eGTx (⟨(List.replicate 32 (0 : Int)), (List.replicate 32 (0 : Int)), (0 : Int), (0 : Int), (0 : Int), (List.replicate 32 (0 : Int))⟩ : GTx))) (old := .d (eGTx (⟨(List.replicate 32 (0 : Int)), (List.replicate 32 (0 : Int)), (0 : Int), (0 : Int), (0 : Int), (List.replicate 32 (0 : Int))⟩ : GTx))) (z := .d (eGTx y63.1)) (c' := .d (eGTx y63.1)) rfl rfl (by rfl) ty36 (by rfl)) rfl (.c rfl (.c rfl .nil)) (.cons rfl .nil) ?_
   refine .v (f_assign (by rfl)) rfl (.c rfl .nil) .nil ?_
   refine .nil (by kernel_rfl) ?_
   refine aw_rds ?_
   refine .v (f_load (n := 0) (o := 8) (off := 0) (p := []) (c := .d (eGShard y11.1)) (z := .d (eGShard y11.1)) (by rfl) rfl ty74 (by rfl)) rfl (.c rfl .nil) (.cons rfl .nil) ?_
   refine .v (f_load (n := 0) (o := 12) (off := 0) (p := []) (c := .d (eA22 y22)) (z := .d (eA22 y22)) (by rfl) rfl ty23 (by rfl)) rfl (.c rfl .nil) (.cons rfl .nil) ?_
   refine .v (f_move (by rfl)) rfl (.c rfl .nil) .nil ?_
   refine .v (f_move (by rfl)) rfl (.c rfl .nil) .nil ?_
   obtain ⟨x65, hx66, h⟩ := bind_some h
   obtain ⟨hx67, hx66⟩ := rd_some hx66
   refine .v (f_indexS (by rfl) sl24 hx67 (rd_map _ hx66)) rfl (.c rfl (.c rfl .nil)) .nil ?_
   refine .v (f_fieldAddrR (by rfl) fl36_2 (by decide) rfl) rfl (.c rfl .nil) .nil ?_
   refine .v (f_loadR (z := (.val (.int .u64 x65.Nonce))) (by rfl) ty27) rfl (.c rfl .nil) .nil ?_
   obtain ⟨y68, hy69, h⟩ := bind_some h
   refine .v (f_callP hgl (by rfl) en51 rfl (by rfl) (by rfl) (by rfl) (F51_beadrolllaw20_find_ok hy69)) rfl (.c rfl (.c rfl (.c rfl .nil))) .nil ?_
   refine .v (f_move (by rfl)) rfl (.c rfl .nil) .nil ?_
   refine .v (f_extract (by rfl) rfl) rfl (.c rfl .nil) .nil ?_
   refine .v (f_extract (by rfl) rfl) rfl (.c rfl .nil) .nil ?_
   refine .n (f_alloc 17 (by rfl) zr36) rfl .nil rfl ?_
   refine .s (f_store (n := 0) (o := 17) (off := 0) (p := []) (c := .d (eGTx (⟨(List.replicate 32 (0 : Int)), (List.replicate 32 (0 : Int)), (0 : Int), (0 : Int), (0 : Int), (List.replicate 32 (0 : Int))⟩ : GTx))) (old := .d (eGTx (⟨(List.replicate 32 (0 : Int)), (List.replicate 32 (0 : Int)), (0 : Int), (0 : Int), (0 : Int), (List.replicate 32 (0 : Int))⟩ : GTx))) (z := .d (eGTx y68.1)) (c' := .d (eGTx y68.1)) rfl rfl (by rfl) ty36 (by rfl)) rfl (.c rfl (.c rfl .nil)) (.cons rfl .nil) ?_
   refine .v (f_assign (by rfl)) rfl (.c rfl .nil) .nil ?_
   refine .nil (by kernel_rfl) ?_
   refine aw_seq ?_
   obtain ⟨o80, ho82, h⟩ := bind_some h
   refine aw_join (.normal) ⟨[(2, .d (.val (.int .i64 a2))), (3, .ptr 3 0 []), (4, .ptr 4 0 []), (7, .d (.val (.bool y1))), (8, .ptr 8 0 []), (9, .d (eL24 y11.2.1)), (11, .d (.val (.int .i64 z0_0))), (145, .d (.val (.bool o80)))], [(3, .av (.d (eGShard a0))), (4, .av (.d (eGTree a1))), (8, .av (.d (eGShard y11.1)))], []⟩ ?_ ?_
   ·replace h := ho82
    refine aw_rd ?_
    refine .v (f_move (by rfl)) rfl (.c rfl .nil) .nil ?_
    refine .v (f_binI (by rfl) rfl (by rfl)) rfl (.c rfl (.c rfl .nil)) .nil ?_
    refine .v (f_move (by rfl)) rfl (.c rfl .nil) .nil ?_
    rcases Bool.eq_false_or_eq_true (y24.2 != (0 : Int)) with hc70 | hc70
    ·replace h := ite_t hc70 h
     refine .off rfl rfl rfl hc70 rfl (by rfl) ?_
     refine .off rfl rfl rfl hc70 rfl (by rfl) ?_
     refine .off rfl rfl rfl hc70 rfl (by rfl) ?_
     refine .off rfl rfl rfl hc70 rfl (by rfl) ?_
     refine .off rfl rfl rfl hc70 rfl (by rfl) ?_
     refine .off rfl rfl rfl hc70 rfl (by rfl) ?_
     refine .off rfl rfl rfl hc70 rfl (by rfl) ?_
     refine .off rfl rfl rfl hc70 rfl (by rfl) ?_
     refine .v (f_pick_true (by rfl) hc70) rfl (.c rfl (.c rfl .nil)) .nil ?_
     refine .v (f_move (by rfl)) rfl (.c rfl .nil) .nil ?_
     refine .off rfl rfl rfl rfl rfl (by rfl) ?_
     refine .off rfl rfl rfl rfl rfl (by rfl) ?_
     refine .v (f_pick_true (by rfl) rfl) rfl (.c rfl (.c rfl .nil)) .nil ?_
     refine .v (f_move (by rfl)) rfl (.c rfl .nil) .nil ?_
     refine .off rfl rfl rfl rfl rfl (by rfl) ?_
     refine .off rfl rfl rfl rfl rfl (by rfl) ?_
     refine .off rfl rfl rfl rfl rfl (by rfl) ?_
     refine .off rfl rfl rfl rfl rfl (by rfl) ?_
     refine .off rfl rfl rfl rfl rfl (by rfl) ?_
     refine .off rfl rfl rfl rfl rfl (by rfl) ?_
     refine .v (f_pick_true (by rfl) rfl) rfl (.c rfl (.c rfl .nil)) .nil ?_
     refine .v (f_move (by rfl)) rfl (.c rfl .nil) .nil ?_
     refine .off rfl rfl rfl rfl rfl (by rfl) ?_
     refine .v (f_pick_true (by rfl) rfl) rfl (.c rfl (.c rfl .nil)) .nil ?_
     refine .nil (by kernel_rfl) ?_
     obtain rfl := Option.some.inj h
     refine aq_weak (s' := ⟨[(2, .d (.val (.int .i64 a2))), (3, .ptr 3 0 []), (4, .ptr 4 0 []), (7, .d (.val (.bool y1))), (8, .ptr 8 0 []), (9, .d (eL24 y11.2.1)), (11, .d (.val (.int .i64 z0_0))), (145, .d (.val (.bool true)))], [(3, .av (.d (eGShard a0))), (4, .av (.d (eGTree a1))), (8, .av (.d (eGShard y11.1)))], []⟩) id hb0 (.keep rfl (.keep rfl (.keep rfl (.keep rfl (.keep rfl (.keep rfl (.keep rfl (.keep rfl .nil)))))))) (.keep rfl (.keep rfl (.keep rfl .nil))) rfl (by rfl) ?_
     exact jq
    replace h := ite_f hc70 h
    refine .gv (f_move (by rfl)) rfl rfl rfl hc70 (.c rfl .nil) .nil ?_
    refine .gv (f_move (by rfl)) rfl rfl rfl hc70 (.c rfl .nil) .nil ?_
    obtain ⟨x71, hx72, h⟩ := bind_some h
    obtain ⟨hx73, hx72⟩ := rd_some hx72
    refine .gv (f_indexS (by rfl) sl24 hx73 (rd_map _ hx72)) rfl rfl rfl hc70 (.c rfl (.c rfl .nil)) .nil ?_
    refine .gv (f_fieldAddrR (by rfl) fl36_2 (by decide) rfl) rfl rfl rfl hc70 (.c rfl .nil) .nil ?_
    refine .gv (f_loadR (z := (.val (.int .u64 x71.Nonce))) (by rfl) ty27) rfl rfl rfl hc70 (.c rfl .nil) .nil ?_
    refine .gv (f_fieldAddr (n := 0) (by rfl) fl95_0 (by decide)) rfl rfl rfl hc70 (.c rfl .nil) .nil ?_
    refine .gv (f_load (n := 0) (o := 13) (off := (0 + 0)) (p := [0]) (c := .d (eGAccount y24.1)) (z := .d (.val (.int .u64 y24.1.Nonce))) (by rfl) rfl ty27 (by rfl)) rfl rfl rfl hc70 (.c rfl .nil) (.cons rfl .nil) ?_
    refine .gv (f_binI (by rfl) rfl (by rfl)) rfl rfl rfl hc70 (.c rfl (.c rfl .nil)) .nil ?_
    refine .v (f_pick_false (by rfl) hc70) rfl (.c rfl (.c rfl .nil)) .nil ?_
    refine .v (f_move (by rfl)) rfl (.c rfl .nil) .nil ?_
    rcases Bool.eq_false_or_eq_true (x71.Nonce != y24.1.Nonce) with hc74 | hc74
    ·replace h := ite_t hc74 h
     refine .off rfl rfl rfl hc74 rfl (by rfl) ?_
     refine .off rfl rfl rfl hc74 rfl (by rfl) ?_
     refine .v (f_pick_true (by rfl) hc74) rfl (.c rfl (.c rfl .nil)) .nil ?_
     refine .v (f_move (by rfl)) rfl (.c rfl .nil) .nil ?_
     refine .off rfl rfl rfl rfl rfl (by rfl) ?_
     refine .off rfl rfl rfl rfl rfl (by rfl) ?_
     refine .off rfl rfl rfl rfl rfl (by rfl) ?_
     refine .off rfl rfl rfl rfl rfl (by rfl) ?_
     refine .off rfl rfl rfl rfl rfl (by rfl) ?_
     refine .off rfl rfl rfl rfl rfl (by rfl) ?_
     refine .v (f_pick_true (by rfl) rfl) rfl (.c rfl (.c rfl .nil)) .nil ?_
     refine .v (f_move (by rfl)) rfl (.c rfl .nil) .nil ?_
     refine .off rfl rfl rfl rfl rfl (by rfl) ?_
     refine .v (f_pick_true (by rfl) rfl) rfl (.c rfl (.c rfl .nil)) .nil ?_
     refine .nil (by kernel_rfl) ?_
     obtain rfl := Option.some.inj h
     refine aq_weak (s' := ⟨[(2, .d (.val (.int .i64 a2))), (3, .ptr 3 0 []), (4, .ptr 4 0 []), (7, .d (.val (.bool y1))), (8, .ptr 8 0 []), (9, .d (eL24 y11.2.1)), (11, .d (.val (.int .i64 z0_0))), (145, .d (.val (.bool true)))], [(3, .av (.d (eGShard a0))), (4, .av (.d (eGTree a1))), (8, .av (.d (eGShard y11.1)))], []⟩) id hb0 (.keep rfl (.keep rfl (.keep rfl (.keep rfl (.keep rfl (.keep rfl (.keep rfl (.keep rfl .nil)))))))) (.keep rfl (.keep rfl (.keep rfl .nil))) rfl (by rfl) ?_
     exact jq
    replace h := ite_f hc74 h
    refine .gv (f_move (by rfl)) rfl rfl rfl hc74 (.c rfl .nil) .nil ?_
    refine .gv (f_not (by rfl)) rfl rfl rfl hc74 (.c rfl .nil) .nil ?_
    refine .v (f_pick_false (by rfl) hc74) rfl (.c rfl (.c rfl .nil)) .nil ?_
    refine .v (f_move (by rfl)) rfl (.c rfl .nil) .nil ?_
    rcases Bool.eq_false_or_eq_true (!y63.2) with hc75 | hc75
    ·replace h := ite_t hc75 h
     refine .off rfl rfl rfl hc75 rfl (by rfl) ?_
     refine .off rfl rfl rfl hc75 rfl (by rfl) ?_
     refine .off rfl rfl rfl hc75 rfl (by rfl) ?_
     refine .off rfl rfl rfl hc75 rfl (by rfl) ?_
     refine .off rfl rfl rfl hc75 rfl (by rfl) ?_
     refine .off rfl rfl rfl hc75 rfl (by rfl) ?_
     refine .v (f_pick_true (by rfl) hc75) rfl (.c rfl (.c rfl .nil)) .nil ?_
     refine .v (f_move (by rfl)) rfl (.c rfl .nil) .nil ?_
     refine .off rfl rfl rfl rfl rfl (by rfl) ?_
     refine .v (f_pick_true (by rfl) rfl) rfl (.c rfl (.c rfl .nil)) .nil ?_
     refine .nil (by kernel_rfl) ?_
     obtain rfl := Option.some.inj h
     refine aq_weak (s' := ⟨[(2, .d (.val (.int .i64 a2))), (3, .ptr 3 0 []), (4, .ptr 4 0 []), (7, .d (.val (.bool y1))), (8, .ptr 8 0 []), (9, .d (eL24 y11.2.1)), (11, .d (.val (.int .i64 z0_0))), (145, .d (.val (.bool true)))], [(3, .av (.d (eGShard a0))), (4, .av (.d (eGTree a1))), (8, .av (.d (eGShard y11.1)))], []⟩) id hb0 (.keep rfl (.keep rfl (.keep rfl (.keep rfl (.keep rfl (.keep rfl (.keep rfl (.keep rfl .nil)))))))) (.keep rfl (.keep rfl (.keep rfl .nil))) rfl (by rfl) ?_
     exact jq
    replace h := ite_f hc75 h
    refine .gv (f_load (n := 0) (o := 15) (off := 0) (p := []) (c := .d (eGTx y63.1)) (z := .d (eGTx y63.1)) (by rfl) rfl ty36 (by rfl)) rfl rfl rfl hc75 (.c rfl .nil) (.cons rfl .nil) ?_
    refine .gv (f_move (by rfl)) rfl rfl rfl hc75 (.c rfl .nil) .nil ?_
    refine .gv (f_move (by rfl)) rfl rfl rfl hc75 (.c rfl .nil) .nil ?_
    obtain ⟨x76, hx77, h⟩ := bind_some h
    obtain ⟨hx78, hx77⟩ := rd_some hx77
    refine .gv (f_indexS (by rfl) sl24 hx78 (rd_map _ hx77)) rfl rfl rfl hc75 (.c rfl (.c rfl .nil)) .nil ?_
    refine .gv (f_loadR (z := (eGTx x76)) (by rfl) ty36) rfl rfl rfl hc75 (.c rfl .nil) .nil ?_
    refine .gv (f_neqT (by rfl) (fit36 _) (fit36 _) (by rfl) (by rfl) gd36 (eq_eGTx _ _)) rfl rfl rfl hc75 (.c rfl (.c rfl .nil)) .nil ?_
    refine .v (f_pick_false (by rfl) hc75) rfl (.c rfl (.c rfl .nil)) .nil ?_
    refine .v (f_move (by rfl)) rfl (.c rfl .nil) .nil ?_
    rcases Bool.eq_false_or_eq_true (!(decide (y63.1 = x76))) with hc79 | hc79
    ·replace h := ite_t hc79 h
     refine .off rfl rfl rfl hc79 rfl (by rfl) ?_
     refine .v (f_pick_true (by rfl) hc79) rfl (.c rfl (.c rfl .nil)) .nil ?_
     refine .nil (by kernel_rfl) ?_
     obtain rfl := Option.some.inj h
     refine aq_weak (s' := ⟨[(2, .d (.val (.int .i64 a2))), (3, .ptr 3 0 []), (4, .ptr 4 0 []), (7, .d (.val (.bool y1))), (8, .ptr 8 0 []), (9, .d (eL24 y11.2.1)), (11, .d (.val (.int .i64 z0_0))), (145, .d (.val (.bool true)))], [(3, .av (.d (eGShard a0))), (4, .av (.d (eGTree a1))), (8, .av (.d (eGShard y11.1)))], []⟩) id hb0 (.keep rfl (.keep rfl (.keep rfl (.keep rfl (.keep rfl (.keep rfl (.keep rfl (.keep rfl .nil)))))))) (.keep rfl (.keep rfl (.keep rfl .nil))) rfl (by rfl) ?_
     exact jq
    replace h := ite_f hc79 h
    refine .gv (f_move (by rfl)) rfl rfl rfl hc79 (.c rfl .nil) .nil ?_
    refine .v (f_pick_false (by rfl) hc79) rfl (.c rfl (.c rfl .nil)) .nil ?_
    refine .nil (by kernel_rfl) ?_
    obtain rfl := Option.some.inj h
    refine aq_weak (s' := ⟨[(2, .d (.val (.int .i64 a2))), (3, .ptr 3 0 []), (4, .ptr 4 0 []), (7, .d (.val (.bool y1))), (8, .ptr 8 0 []), (9, .d (eL24 y11.2.1)), (11, .d (.val (.int .i64 z0_0))), (145, .d (.val (.bool y68.2)))], [(3, .av (.d (eGShard a0))), (4, .av (.d (eGTree a1))), (8, .av (.d (eGShard y11.1)))], []⟩) id hb0 (.keep rfl (.keep rfl (.keep rfl (.keep rfl (.keep rfl (.keep rfl (.keep rfl (.keep rfl .nil)))))))) (.keep rfl (.keep rfl (.keep rfl .nil))) rfl (by rfl) ?_
    exact jq
   refine aq_then ?_
   refine aw_cond rfl (fun hc81 => ?_) (fun hc81 => ?_)
   ·replace h := ite_t hc81 h
    refine aw_rs ?_
    refine .a rfl ?_
    refine .nil (aq_then ?_)
    refine aw_ret ?_
    refine aq_block_ret ?_
    refine aq_then_ret ?_
    obtain rfl := Option.some.inj h
    refine aq_weak (s' := ⟨[(6, .d (.val (.bool false)))], [], []⟩) id hb0 (.keep rfl .nil) .nil rfl (by rfl) ?_
    exact jq
   replace h := ite_f hc81 h
   refine aw_skip ?_
   refine aq_block ?_
   refine aq_then ?_
   refine aw_r ?_
   refine .m rfl ?_
   refine .b rfl rfl rfl ?_
   refine .a rfl ?_
   refine .nil ?_
   obtain rfl := Option.some.inj h
   refine aq_weak (s' := ⟨[(2, .d (.val (.int .i64 a2))), (3, .ptr 3 0 []), (4, .ptr 4 0 []), (7, .d (.val (.bool y1))), (8, .ptr 8 0 []), (9, .d (eL24 y11.2.1)), (11, .d (.val (.int .i64 (IntKind.i64.wrap (z0_0 + (1 : Int))))))], [(3, .av (.d (eGShard a0))), (4, .av (.d (eGTree a1))), (8, .av (.d (eGShard y11.1)))], []⟩) id hb0 (.keep rfl (.keep rfl (.keep rfl (.keep rfl (.keep rfl (.keep rfl (.keep rfl .nil))))))) (.keep rfl (.keep rfl (.keep rfl .nil))) rfl (by rfl) ?_
   exact jq
  replace h := ite_f hc18 h
  refine aw_exit ?_
  refine aq_then_exit ?_
  obtain rfl := Option.some.inj h
  refine aq_weak (s' := ⟨[(2, .d (.val (.int .i64 a2))), (3, .ptr 3 0 []), (4, .ptr 4 0 []), (7, .d (.val (.bool y1))), (8, .ptr 8 0 []), (9, .d (eL24 y11.2.1))], [(3, .av (.d (eGShard a0))), (4, .av (.d (eGTree a1))), (8, .av (.d (eGShard y11.1)))], []⟩) id hb0 (.keep rfl (.keep rfl (.keep rfl (.keep rfl (.keep rfl (.keep rfl .nil)))))) (.keep rfl (.keep rfl (.keep rfl .nil))) rfl (by rfl) ?_
  exact jq
 rcases o84 with j84 | j84
 ·replace h := elim_l h
  refine aq_block_exit ?_
  refine aq_then ?_
  refine aw_seq ?_
  refine aw_rs ?_
  refine .a rfl ?_
  refine .nil (aq_then ?_)
  refine aw_block ?_
  refine aw_weak (s' := ⟨[(2, .d (.val (.int .i64 a2))), (3, .ptr 3 0 []), (4, .ptr 4 0 []), (7, .d (.val (.bool y1))), (8, .ptr 8 0 []), (9, .d (eL24 y11.2.1)), (19, .d (.val (.int .i64 (0 : Int))))], [(3, .av (.d (eGShard a0))), (4, .av (.d (eGTree a1))), (8, .av (.d (eGShard y11.1)))], []⟩) id hb0 (.keep rfl (.keep rfl (.keep rfl (.keep rfl (.keep rfl (.keep rfl (.keep rfl .nil))))))) (.keep rfl (.keep rfl (.keep rfl .nil))) rfl (by rfl) ?_
  obtain ⟨o115, ho116, h⟩ := bind_some h
  refine aw_loopX (σ := Int) (fun z => ⟨[(2, .d (.val (.int .i64 a2))), (3, .ptr 3 0 []), (4, .ptr 4 0 []), (7, .d (.val (.bool y1))), (8, .ptr 8 0 []), (9, .d (eL24 y11.2.1)), (19, .d (.val (.int .i64 z)))], [(3, .av (.d (eGShard a0))), (4, .av (.d (eGTree a1))), (8, .av (.d (eGShard y11.1)))], []⟩) (Sum.elim (fun _ => .exit 2) (fun _ => .ret)) (Sum.elim (fun j115 => ⟨[(2, .d (.val (.int .i64 a2))), (7, .d (.val (.bool y1))), (8, .ptr 8 0 []), (9, .d (eL24 y11.2.1))], [(8, .av (.d (eGShard y11.1)))], []⟩) (fun j115 => ⟨[(6, .d (.val (.bool false)))], [], []⟩)) ho116 (by intro b; rcases b with _ | _ <;> rfl) ?_ ?_
  ·clear h ho116
   intro z1_0 o h
   change F11_beadrolllaw20_ShardRuns_s1 n a0 a1 y11 z1_0 = some o at h
   unfold F11_beadrolllaw20_ShardRuns_s1 at h
   show AW _ _ _ ⟨[(2, .d (.val (.int .i64 a2))), (3, .ptr 3 0 []), (4, .ptr 4 0 []), (7, .d (.val (.bool y1))), (8, .ptr 8 0 []), (9, .d (eL24 y11.2.1)), (19, .d (.val (.int .i64 z1_0)))], [(3, .av (.d (eGShard a0))), (4, .av (.d (eGTree a1))), (8, .av (.d (eGShard y11.1)))], []⟩
   refine aw_seq ?_
   refine aw_rs ?_
   refine .m rfl ?_
   refine .v (f_fieldAddr (n := 0) (by rfl) fl74_0 (by decide)) rfl (.c rfl .nil) .nil ?_
   refine .l 8 (0 + 0) [0] (.d (eGShard y11.1)) (.d (eL72 y11.1.Lines)) ty72 ?_
   refine .v (f_lenD (n := (y11.1.Lines).length) (by rfl) sl72 rfl (by simp)) rfl (.c rfl .nil) .nil ?_
   refine .b rfl rfl rfl ?_
   refine .nil (aq_then ?_)
   refine aw_cond rfl (fun hc86 => ?_) (fun hc86 => ?_)
   ·replace h := ite_t hc86 h
    refine aw_skip ?_
    refine aq_then ?_
    refine aw_seq ?_
    refine aw_block ?_
    refine aw_rds ?_
    refine .v (f_load (n := 0) (o := 4) (off := 0) (p := []) (c := .d (eGTree a1)) (z := .d (eGTree a1)) (by rfl) rfl ty90 (by rfl)) rfl (.c rfl .nil) (.cons rfl .nil) ?_
    refine .v (f_fieldAddr (n := 0) (by rfl) fl74_0 (by decide)) rfl (.c rfl .nil) .nil ?_
    refine .v (f_load (n := 0) (o := 8) (off := (0 + 0)) (p := [0]) (c := .d (eGShard y11.1)) (z := .d (eL72 y11.1.Lines)) (by rfl) rfl ty72 (by rfl)) rfl (.c rfl .nil) (.cons rfl .nil) ?_
    refine .v (f_move (by rfl)) rfl (.c rfl .nil) .nil ?_
    obtain ⟨x87, hx88, h⟩ := bind_some h
    obtain ⟨hx89, hx88⟩ := rd_some hx88
    refine .v (f_indexS (by rfl) sl72 hx89 (rd_map _ hx88)) rfl (.c rfl (.c rfl .nil)) .nil ?_
    refine .v (f_fieldAddrR (by rfl) fl26_0 (by decide) rfl) rfl (.c rfl .nil) .nil ?_
    refine .v (f_loadR (z := (eA22 x87.From)) (by rfl) ty23) rfl (.c rfl .nil) .nil ?_
    obtain ⟨y90, hy91, h⟩ := bind_some h
    refine .v (f_callP hgl (by rfl) en64 rfl (by rfl) (by rfl) (by rfl) (F64_acct_Get_ok hy91)) rfl (.c rfl (.c rfl .nil)) .nil ?_
    refine .v (f_move (by rfl)) rfl (.c rfl .nil) .nil ?_
    refine .v (f_extract (by rfl) rfl) rfl (.c rfl .nil) .nil ?_
    refine .v (f_extract (by rfl) rfl) rfl (.c rfl .nil) .nil ?_
    refine .n (f_alloc 20 (by rfl) zr95) rfl .nil rfl ?_
    refine .s (f_store (n := 0) (o := 20) (off := 0) (p := []) (c := .d (eGAccount (⟨(0 : Int), (0 : Int)⟩ : GAccount))) (old := .d (eGAccount (⟨(0 : Int), (0 : Int)⟩ : GAccount))) (z := .d (eGAccount y90.1)) (c' := .d (eGAccount y90.1)) rfl rfl (by rfl) ty95 (by rfl)) rfl (.c rfl (.c rfl .nil)) (.cons rfl .nil) ?_
    refine .v (f_assign (by rfl)) rfl (.c rfl .nil) .nil ?_
    refine .nil (by kernel_rfl) ?_
    refine aw_rs ?_
    refine .a rfl ?_
    refine .nil (aq_then ?_)
    refine aw_block ?_
    refine aw_weak (s' := ⟨[(2, .d (.val (.int .i64 a2))), (3, .ptr 3 0 []), (4, .ptr 4 0 []), (7, .d (.val (.bool y1))), (8, .ptr 8 0 []), (9, .d (eL24 y11.2.1)), (19, .d (.val (.int .i64 z1_0))), (20, .ptr 20 0 []), (21, .d (.val (.int .i64 y90.2))), (22, .d (.val (.int .i64 (0 : Int))))], [(3, .av (.d (eGShard a0))), (4, .av (.d (eGTree a1))), (8, .av (.d (eGShard y11.1))), (20, .av (.d (eGAccount y90.1)))], []⟩) id hb0 (.keep rfl (.keep rfl (.keep rfl (.keep rfl (.keep rfl (.keep rfl (.keep rfl (.keep rfl (.keep rfl (.keep rfl .nil)))))))))) (.keep rfl (.keep rfl (.keep rfl (.keep rfl .nil)))) rfl (by rfl) ?_
    obtain ⟨o113, ho114, h⟩ := bind_some h
    refine aw_loopX (σ := Int) (fun z => ⟨[(2, .d (.val (.int .i64 a2))), (3, .ptr 3 0 []), (4, .ptr 4 0 []), (7, .d (.val (.bool y1))), (8, .ptr 8 0 []), (9, .d (eL24 y11.2.1)), (19, .d (.val (.int .i64 z1_0))), (20, .ptr 20 0 []), (21, .d (.val (.int .i64 y90.2))), (22, .d (.val (.int .i64 z)))], [(3, .av (.d (eGShard a0))), (4, .av (.d (eGTree a1))), (8, .av (.d (eGShard y11.1))), (20, .av (.d (eGAccount y90.1)))], []⟩) (Sum.elim (fun _ => .exit 4) (fun _ => .ret)) (Sum.elim (fun j113 => ⟨[(2, .d (.val (.int .i64 a2))), (3, .ptr 3 0 []), (4, .ptr 4 0 []), (7, .d (.val (.bool y1))), (8, .ptr 8 0 []), (9, .d (eL24 y11.2.1)), (19, .d (.val (.int .i64 z1_0)))], [(3, .av (.d (eGShard a0))), (4, .av (.d (eGTree a1))), (8, .av (.d (eGShard y11.1)))], []⟩) (fun j113 => ⟨[(6, .d (.val (.bool false)))], [], []⟩)) ho114 (by intro b; rcases b with _ | _ <;> rfl) ?_ ?_
    ·clear h ho114
     intro z2_0 o h
     change F11_beadrolllaw20_ShardRuns_s2 n a0 y11 z1_0 y90 z2_0 = some o at h
     unfold F11_beadrolllaw20_ShardRuns_s2 at h
     show AW _ _ _ ⟨[(2, .d (.val (.int .i64 a2))), (3, .ptr 3 0 []), (4, .ptr 4 0 []), (7, .d (.val (.bool y1))), (8, .ptr 8 0 []), (9, .d (eL24 y11.2.1)), (19, .d (.val (.int .i64 z1_0))), (20, .ptr 20 0 []), (21, .d (.val (.int .i64 y90.2))), (22, .d (.val (.int .i64 z2_0)))], [(3, .av (.d (eGShard a0))), (4, .av (.d (eGTree a1))), (8, .av (.d (eGShard y11.1))), (20, .av (.d (eGAccount y90.1)))], []⟩
     refine aw_seq ?_
     refine aw_rs ?_
     refine .m rfl ?_
     refine .v (f_fieldAddr (n := 0) (by rfl) fl74_0 (by decide)) rfl (.c rfl .nil) .nil ?_
     refine .l 8 (0 + 0) [0] (.d (eGShard y11.1)) (.d (eL72 y11.1.Lines)) ty72 ?_
     refine .m rfl ?_
     obtain ⟨x92, hx93, h⟩ := bind_some h
     obtain ⟨hx94, hx93⟩ := rd_some hx93
     refine .v (f_indexS (by rfl) sl72 hx94 (rd_map _ hx93)) rfl (.c rfl (.c rfl .nil)) .nil ?_
     refine .v (f_fieldAddrR (by rfl) fl26_1 (by decide) rfl) rfl (.c rfl .nil) .nil ?_
     refine .v (f_loadR (z := (eL24 x92.Txs)) (by rfl) ty24) rfl (.c rfl .nil) .nil ?_
     refine .v (f_lenD (n := (x92.Txs).length) (by rfl) sl24 rfl (by simp)) rfl (.c rfl .nil) .nil ?_
     refine .b rfl rfl rfl ?_
     refine .nil (aq_then ?_)
     refine aw_cond rfl (fun hc95 => ?_) (fun hc95 => ?_)
     ·replace h := ite_t hc95 h
      refine aw_skip ?_
      refine aq_then ?_
      refine aw_seq ?_
      refine aw_block ?_
      refine aw_rs ?_
      refine .v (f_fieldAddr (n := 0) (by rfl) fl74_0 (by decide)) rfl (.c rfl .nil) .nil ?_
      refine .l 8 (0 + 0) [0] (.d (eGShard y11.1)) (.d (eL72 y11.1.Lines)) ty72 ?_
      refine .m rfl ?_
      obtain ⟨x96, hx97, h⟩ := bind_some h
      obtain ⟨hx98, hx97⟩ := rd_some hx97
      refine .v (f_indexS (by rfl) sl72 hx98 (rd_map _ hx97)) rfl (.c rfl (.c rfl .nil)) .nil ?_
      refine .v (f_fieldAddrR (by rfl) fl26_1 (by decide) rfl) rfl (.c rfl .nil) .nil ?_
      refine .v (f_loadR (z := (eL24 x96.Txs)) (by rfl) ty24) rfl (.c rfl .nil) .nil ?_
      refine .m rfl ?_
      obtain ⟨x99, hx100, h⟩ := bind_some h
      obtain ⟨hx101, hx100⟩ := rd_some hx100
      refine .v (f_indexS (by rfl) sl24 hx101 (rd_map _ hx100)) rfl (.c rfl (.c rfl .nil)) .nil ?_
      refine .v (f_loadR (z := (eGTx x99)) (by rfl) ty36) rfl (.c rfl .nil) .nil ?_
      refine .n (f_alloc 23 (by rfl) zr36) rfl .nil rfl ?_
      refine .s (f_store (n := 0) (o := 23) (off := 0) (p := []) (c := .d (eGTx (⟨(List.replicate 32 (0 : Int)), (List.replicate 32 (0 : Int)), (0 : Int), (0 : Int), (0 : Int), (List.replicate 32 (0 : Int))⟩ : GTx))) (old := .d (eGTx (⟨(List.replicate 32 (0 : Int)), (List.replicate 32 (0 : Int)), (0 : Int), (0 : Int), (0 : Int), (List.replicate 32 (0 : Int))⟩ : GTx))) (z := .d (eGTx x99)) (c' := .d (eGTx x99)) rfl rfl (by rfl) ty36 (by rfl)) rfl (.c rfl (.c rfl .nil)) (.cons rfl .nil) ?_
      refine .nil (aq_then ?_)
      refine aw_rds ?_
      refine .v (f_load (n := 0) (o := 3) (off := 0) (p := []) (c := .d (eGShard a0)) (z := .d (eGShard a0)) (by rfl) rfl ty74 (by rfl)) rfl (.c rfl .nil) (.cons rfl .nil) ?_
      refine .v (f_fieldAddr (n := 0) (by rfl) fl74_0 (by decide)) rfl (.c rfl .nil) .nil ?_
      refine .v (f_load (n := 0) (o := 8) (off := (0 + 0)) (p := [0]) (c := .d (eGShard y11.1)) (z := .d (eL72 y11.1.Lines)) (by rfl) rfl ty72 (by rfl)) rfl (.c rfl .nil) (.cons rfl .nil) ?_
      refine .v (f_move (by rfl)) rfl (.c rfl .nil) .nil ?_
      obtain ⟨x102, hx103, h⟩ := bind_some h
      obtain ⟨hx104, hx103⟩ := rd_some hx103
      refine .v (f_indexS (by rfl) sl72 hx104 (rd_map _ hx103)) rfl (.c rfl (.c rfl .nil)) .nil ?_
      refine .v (f_fieldAddrR (by rfl) fl26_0 (by decide) rfl) rfl (.c rfl .nil) .nil ?_
      refine .v (f_loadR (z := (eA22 x102.From)) (by rfl) ty23) rfl (.c rfl .nil) .nil ?_
      refine .v (f_fieldAddr (n := 64) (by rfl) fl36_2 (by decide)) rfl (.c rfl .nil) .nil ?_
      refine .v (f_load (n := 0) (o := 23) (off := (0 + 64)) (p := [2]) (c := .d (eGTx x99)) (z := .d (.val (.int .u64 x99.Nonce))) (by rfl) rfl ty27 (by rfl)) rfl (.c rfl .nil) (.cons rfl .nil) ?_
      obtain ⟨y105, hy106, h⟩ := bind_some h
      refine .v (f_callP hgl (by rfl) en51 rfl (by rfl) (by rfl) (by rfl) (F51_beadrolllaw20_find_ok hy106)) rfl (.c rfl (.c rfl (.c rfl .nil))) .nil ?_
      refine .v (f_move (by rfl)) rfl (.c rfl .nil) .nil ?_
      refine .v (f_extract (by rfl) rfl) rfl (.c rfl .nil) .nil ?_
      refine .v (f_extract (by rfl) rfl) rfl (.c rfl .nil) .nil ?_
      refine .n (f_alloc 24 (by rfl) zr36) rfl .nil rfl ?_
      refine .s (f_store (n := 0) (o := 24) (off := 0) (p := []) (c := .d (eGTx (⟨(List.replicate 32 (0 : Int)), (List.replicate 32 (0 : Int)), (0 : Int), (0 : Int), (0 : Int), (List.replicate 32 (0 : Int))⟩ : GTx))) (old := .d (eGTx (⟨(List.replicate 32 (0 : Int)), (List.replicate 32 (0 : Int)), (0 : Int), (0 : Int), (0 : Int), (List.replicate 32 (0 : Int))⟩ : GTx))) (z := .d (eGTx y105.1)) (c' := .d (eGTx y105.1)) rfl rfl (by rfl) ty36 (by rfl)) rfl (.c rfl (.c rfl .nil)) (.cons rfl .nil) ?_
      refine .v (f_assign (by rfl)) rfl (.c rfl .nil) .nil ?_
      refine .nil (by kernel_rfl) ?_
      refine aw_seq ?_
      obtain ⟨o110, ho112, h⟩ := bind_some h
      refine aw_join (.normal) ⟨[(2, .d (.val (.int .i64 a2))), (3, .ptr 3 0 []), (4, .ptr 4 0 []), (7, .d (.val (.bool y1))), (8, .ptr 8 0 []), (9, .d (eL24 y11.2.1)), (19, .d (.val (.int .i64 z1_0))), (20, .ptr 20 0 []), (21, .d (.val (.int .i64 y90.2))), (22, .d (.val (.int .i64 z2_0))), (214, .d (.val (.bool o110)))], [(3, .av (.d (eGShard a0))), (4, .av (.d (eGTree a1))), (8, .av (.d (eGShard y11.1))), (20, .av (.d (eGAccount y90.1)))], []⟩ ?_ ?_
      ·replace h := ho112
       refine aw_r ?_
       refine .m rfl ?_
       refine .b rfl rfl rfl ?_
       refine .m rfl ?_
       rcases Bool.eq_false_or_eq_true (y90.2 != (0 : Int)) with hc107 | hc107
       ·replace h := ite_t hc107 h
        refine .off rfl rfl rfl hc107 rfl (by rfl) ?_
        refine .off rfl rfl rfl hc107 rfl (by rfl) ?_
        refine .off rfl rfl rfl hc107 rfl (by rfl) ?_
        refine .off rfl rfl rfl hc107 rfl (by rfl) ?_
        refine .off rfl rfl rfl hc107 rfl (by rfl) ?_
        refine .v (f_pick_true (by rfl) hc107) rfl (.c rfl (.c rfl .nil)) .nil ?_
        refine .m rfl ?_
        refine .off rfl rfl rfl rfl rfl (by rfl) ?_
        refine .off rfl rfl rfl rfl rfl (by rfl) ?_
        refine .v (f_pick_true (by rfl) rfl) rfl (.c rfl (.c rfl .nil)) .nil ?_
        refine .m rfl ?_
        refine .off rfl rfl rfl rfl rfl (by rfl) ?_
        refine .off rfl rfl rfl rfl rfl (by rfl) ?_
        refine .off rfl rfl rfl rfl rfl (by rfl) ?_
        refine .v (f_pick_true (by rfl) rfl) rfl (.c rfl (.c rfl .nil)) .nil ?_
        refine .nil ?_
        obtain rfl := Option.some.inj h
        refine aq_weak (s' := ⟨[(2, .d (.val (.int .i64 a2))), (3, .ptr 3 0 []), (4, .ptr 4 0 []), (7, .d (.val (.bool y1))), (8, .ptr 8 0 []), (9, .d (eL24 y11.2.1)), (19, .d (.val (.int .i64 z1_0))), (20, .ptr 20 0 []), (21, .d (.val (.int .i64 y90.2))), (22, .d (.val (.int .i64 z2_0))), (214, .d (.val (.bool true)))], [(3, .av (.d (eGShard a0))), (4, .av (.d (eGTree a1))), (8, .av (.d (eGShard y11.1))), (20, .av (.d (eGAccount y90.1)))], []⟩) id hb0 (.keep rfl (.keep rfl (.keep rfl (.keep rfl (.keep rfl (.keep rfl (.keep rfl (.keep rfl (.keep rfl (.keep rfl (.keep rfl .nil))))))))))) (.keep rfl (.keep rfl (.keep rfl (.keep rfl .nil)))) rfl (by rfl) ?_
        exact jq
       replace h := ite_f hc107 h
       refine .gv (f_fieldAddr (n := 64) (by rfl) fl36_2 (by decide)) rfl rfl rfl hc107 (.c rfl .nil) .nil ?_
       refine .gv (f_load (n := 0) (o := 23) (off := (0 + 64)) (p := [2]) (c := .d (eGTx x99)) (z := .d (.val (.int .u64 x99.Nonce))) (by rfl) rfl ty27 (by rfl)) rfl rfl rfl hc107 (.c rfl .nil) (.cons rfl .nil) ?_
       refine .gv (f_fieldAddr (n := 0) (by rfl) fl95_0 (by decide)) rfl rfl rfl hc107 (.c rfl .nil) .nil ?_
       refine .gv (f_load (n := 0) (o := 20) (off := (0 + 0)) (p := [0]) (c := .d (eGAccount y90.1)) (z := .d (.val (.int .u64 y90.1.Nonce))) (by rfl) rfl ty27 (by rfl)) rfl rfl rfl hc107 (.c rfl .nil) (.cons rfl .nil) ?_
       refine .gv (f_binI (by rfl) rfl (by rfl)) rfl rfl rfl hc107 (.c rfl (.c rfl .nil)) .nil ?_
       refine .v (f_pick_false (by rfl) hc107) rfl (.c rfl (.c rfl .nil)) .nil ?_
       refine .m rfl ?_
       rcases Bool.eq_false_or_eq_true (decide (x99.Nonce < y90.1.Nonce)) with hc108 | hc108
       ·replace h := ite_t hc108 h
        refine .off rfl rfl rfl hc108 rfl (by rfl) ?_
        refine .off rfl rfl rfl hc108 rfl (by rfl) ?_
        refine .v (f_pick_true (by rfl) hc108) rfl (.c rfl (.c rfl .nil)) .nil ?_
        refine .m rfl ?_
        refine .off rfl rfl rfl rfl rfl (by rfl) ?_
        refine .off rfl rfl rfl rfl rfl (by rfl) ?_
        refine .off rfl rfl rfl rfl rfl (by rfl) ?_
        refine .v (f_pick_true (by rfl) rfl) rfl (.c rfl (.c rfl .nil)) .nil ?_
        refine .nil ?_
        obtain rfl := Option.some.inj h
        refine aq_weak (s' := ⟨[(2, .d (.val (.int .i64 a2))), (3, .ptr 3 0 []), (4, .ptr 4 0 []), (7, .d (.val (.bool y1))), (8, .ptr 8 0 []), (9, .d (eL24 y11.2.1)), (19, .d (.val (.int .i64 z1_0))), (20, .ptr 20 0 []), (21, .d (.val (.int .i64 y90.2))), (22, .d (.val (.int .i64 z2_0))), (214, .d (.val (.bool true)))], [(3, .av (.d (eGShard a0))), (4, .av (.d (eGTree a1))), (8, .av (.d (eGShard y11.1))), (20, .av (.d (eGAccount y90.1)))], []⟩) id hb0 (.keep rfl (.keep rfl (.keep rfl (.keep rfl (.keep rfl (.keep rfl (.keep rfl (.keep rfl (.keep rfl (.keep rfl (.keep rfl .nil))))))))))) (.keep rfl (.keep rfl (.keep rfl (.keep rfl .nil)))) rfl (by rfl) ?_
        exact jq
       replace h := ite_f hc108 h
       refine .gv (f_move (by rfl)) rfl rfl rfl hc108 (.c rfl .nil) .nil ?_
       refine .gv (f_not (by rfl)) rfl rfl rfl hc108 (.c rfl .nil) .nil ?_
       refine .v (f_pick_false (by rfl) hc108) rfl (.c rfl (.c rfl .nil)) .nil ?_
       refine .m rfl ?_
       rcases Bool.eq_false_or_eq_true (!y105.2) with hc109 | hc109
       ·replace h := ite_t hc109 h
        refine .off rfl rfl rfl hc109 rfl (by rfl) ?_
        refine .off rfl rfl rfl hc109 rfl (by rfl) ?_
        refine .off rfl rfl rfl hc109 rfl (by rfl) ?_
        refine .v (f_pick_true (by rfl) hc109) rfl (.c rfl (.c rfl .nil)) .nil ?_
        refine .nil ?_
        obtain rfl := Option.some.inj h
        refine aq_weak (s' := ⟨[(2, .d (.val (.int .i64 a2))), (3, .ptr 3 0 []), (4, .ptr 4 0 []), (7, .d (.val (.bool y1))), (8, .ptr 8 0 []), (9, .d (eL24 y11.2.1)), (19, .d (.val (.int .i64 z1_0))), (20, .ptr 20 0 []), (21, .d (.val (.int .i64 y90.2))), (22, .d (.val (.int .i64 z2_0))), (214, .d (.val (.bool true)))], [(3, .av (.d (eGShard a0))), (4, .av (.d (eGTree a1))), (8, .av (.d (eGShard y11.1))), (20, .av (.d (eGAccount y90.1)))], []⟩) id hb0 (.keep rfl (.keep rfl (.keep rfl (.keep rfl (.keep rfl (.keep rfl (.keep rfl (.keep rfl (.keep rfl (.keep rfl (.keep rfl .nil))))))))))) (.keep rfl (.keep rfl (.keep rfl (.keep rfl .nil)))) rfl (by rfl) ?_
        exact jq
       replace h := ite_f hc109 h
       refine .gv (f_load (n := 0) (o := 24) (off := 0) (p := []) (c := .d (eGTx y105.1)) (z := .d (eGTx y105.1)) (by rfl) rfl ty36 (by rfl)) rfl rfl rfl hc109 (.c rfl .nil) (.cons rfl .nil) ?_
       refine .gv (f_load (n := 0) (o := 23) (off := 0) (p := []) (c := .d (eGTx x99)) (z := .d (eGTx x99)) (by rfl) rfl ty36 (by rfl)) rfl rfl rfl hc109 (.c rfl .nil) (.cons rfl .nil) ?_
       refine .gv (f_neqT (by rfl) (fit36 _) (fit36 _) (by rfl) (by rfl) gd36 (eq_eGTx _ _)) rfl rfl rfl hc109 (.c rfl (.c rfl .nil)) .nil ?_
       refine .v (f_pick_false (by rfl) hc109) rfl (.c rfl (.c rfl .nil)) .nil ?_
       refine .nil ?_
       obtain rfl := Option.some.inj h
       refine aq_weak (s' := ⟨[(2, .d (.val (.int .i64 a2))), (3, .ptr 3 0 []), (4, .ptr 4 0 []), (7, .d (.val (.bool y1))), (8, .ptr 8 0 []), (9, .d (eL24 y11.2.1)), (19, .d (.val (.int .i64 z1_0))), (20, .ptr 20 0 []), (21, .d (.val (.int .i64 y90.2))), (22, .d (.val (.int .i64 z2_0))), (214, .d (.val (.bool (!(decide (y105.1 = x99))))))], [(3, .av (.d (eGShard a0))), (4, .av (.d (eGTree a1))), (8, .av (.d (eGShard y11.1))), (20, .av (.d (eGAccount y90.1)))], []⟩) id hb0 (.keep rfl (.keep rfl (.keep rfl (.keep rfl (.keep rfl (.keep rfl (.keep rfl (.keep rfl (.keep rfl (.keep rfl (.keep rfl .nil))))))))))) (.keep rfl (.keep rfl (.keep rfl (.keep rfl .nil)))) rfl (by rfl) ?_
       exact jq
      refine aq_then ?_
      refine aw_cond rfl (fun hc111 => ?_) (fun hc111 => ?_)
      ·replace h := ite_t hc111 h
       refine aw_rs ?_
       refine .a rfl ?_
       refine .nil (aq_then ?_)
       refine aw_ret ?_
       refine aq_block_ret ?_
       refine aq_then_ret ?_
       obtain rfl := Option.some.inj h
       refine aq_weak (s' := ⟨[(6, .d (.val (.bool false)))], [], []⟩) id hb0 (.keep rfl .nil) .nil rfl (by rfl) ?_
       exact jq
      replace h := ite_f hc111 h
      refine aw_skip ?_
      refine aq_block ?_
      refine aq_then ?_
      refine aw_r ?_
      refine .m rfl ?_
      refine .b rfl rfl rfl ?_
      refine .a rfl ?_
      refine .nil ?_
      obtain rfl := Option.some.inj h
      refine aq_weak (s' := ⟨[(2, .d (.val (.int .i64 a2))), (3, .ptr 3 0 []), (4, .ptr 4 0 []), (7, .d (.val (.bool y1))), (8, .ptr 8 0 []), (9, .d (eL24 y11.2.1)), (19, .d (.val (.int .i64 z1_0))), (20, .ptr 20 0 []), (21, .d (.val (.int .i64 y90.2))), (22, .d (.val (.int .i64 (IntKind.i64.wrap (z2_0 + (1 : Int))))))], [(3, .av (.d (eGShard a0))), (4, .av (.d (eGTree a1))), (8, .av (.d (eGShard y11.1))), (20, .av (.d (eGAccount y90.1)))], []⟩) id hb0 (.keep rfl (.keep rfl (.keep rfl (.keep rfl (.keep rfl (.keep rfl (.keep rfl (.keep rfl (.keep rfl (.keep rfl .nil)))))))))) (.keep rfl (.keep rfl (.keep rfl (.keep rfl .nil)))) rfl (by rfl) ?_
      exact jq
     replace h := ite_f hc95 h
     refine aw_exit ?_
     refine aq_then_exit ?_
     obtain rfl := Option.some.inj h
     refine aq_weak (s' := ⟨[(2, .d (.val (.int .i64 a2))), (3, .ptr 3 0 []), (4, .ptr 4 0 []), (7, .d (.val (.bool y1))), (8, .ptr 8 0 []), (9, .d (eL24 y11.2.1)), (19, .d (.val (.int .i64 z1_0)))], [(3, .av (.d (eGShard a0))), (4, .av (.d (eGTree a1))), (8, .av (.d (eGShard y11.1)))], []⟩) id hb0 (.keep rfl (.keep rfl (.keep rfl (.keep rfl (.keep rfl (.keep rfl (.keep rfl .nil))))))) (.keep rfl (.keep rfl (.keep rfl .nil))) rfl (by rfl) ?_
     exact jq
    rcases o113 with j113 | j113
    ·replace h := elim_l h
     refine aq_block_exit ?_
     refine aq_block ?_
     refine aq_then ?_
     refine aw_r ?_
     refine .m rfl ?_
     refine .b rfl rfl rfl ?_
     refine .a rfl ?_
     refine .nil ?_
     obtain rfl := Option.some.inj h
     refine aq_weak (s' := ⟨[(2, .d (.val (.int .i64 a2))), (3, .ptr 3 0 []), (4, .ptr 4 0 []), (7, .d (.val (.bool y1))), (8, .ptr 8 0 []), (9, .d (eL24 y11.2.1)), (19, .d (.val (.int .i64 (IntKind.i64.wrap (z1_0 + (1 : Int))))))], [(3, .av (.d (eGShard a0))), (4, .av (.d (eGTree a1))), (8, .av (.d (eGShard y11.1)))], []⟩) id hb0 (.keep rfl (.keep rfl (.keep rfl (.keep rfl (.keep rfl (.keep rfl (.keep rfl .nil))))))) (.keep rfl (.keep rfl (.keep rfl .nil))) rfl (by rfl) ?_
     exact jq
    replace h := elim_r h
    refine aq_block_ret ?_
    refine aq_block_ret ?_
    refine aq_then_ret ?_
    obtain rfl := Option.some.inj h
    refine aq_weak (s' := ⟨[(6, .d (.val (.bool false)))], [], []⟩) id hb0 (.keep rfl .nil) .nil rfl (by rfl) ?_
    exact jq
   replace h := ite_f hc86 h
   refine aw_exit ?_
   refine aq_then_exit ?_
   obtain rfl := Option.some.inj h
   refine aq_weak (s' := ⟨[(2, .d (.val (.int .i64 a2))), (7, .d (.val (.bool y1))), (8, .ptr 8 0 []), (9, .d (eL24 y11.2.1))], [(8, .av (.d (eGShard y11.1)))], []⟩) id hb0 (.keep rfl (.keep rfl (.keep rfl (.keep rfl .nil)))) (.keep rfl .nil) rfl (by rfl) ?_
   exact jq
  rcases o115 with j115 | j115
  ·replace h := elim_l h
   refine aq_block_exit ?_
   refine aq_then ?_
   refine aw_seq ?_
   obtain ⟨o124, ho125, h⟩ := bind_some h
   refine aw_join (.normal) ⟨[(6, .d (.val (.bool o124)))], [], []⟩ ?_ ?_
   ·replace h := ho125
    refine aw_r ?_
    refine .m rfl ?_
    refine .m rfl ?_
    rcases Bool.eq_false_or_eq_true y1 with hc117 | hc117
    ·replace h := ite_t hc117 h
     refine .gv (f_move (by rfl)) rfl rfl rfl hc117 (.c rfl .nil) .nil ?_
     refine .gv (f_lenD (n := (y11.2.1).length) (by rfl) sl24 rfl (by simp)) rfl rfl rfl hc117 (.c rfl .nil) .nil ?_
     refine .gv (f_move (by rfl)) rfl rfl rfl hc117 (.c rfl .nil) .nil ?_
     refine .gv (f_binI (by rfl) rfl (by rfl)) rfl rfl rfl hc117 (.c rfl (.c rfl .nil)) .nil ?_
     refine .gv (f_move (by rfl)) rfl rfl rfl hc117 (.c rfl .nil) .nil ?_
     rcases Bool.eq_false_or_eq_true (decide (((y11.2.1).length : Int) ≤ a2)) with hc118 | hc118
     ·replace h := ite_t hc118 h
      refine .off rfl rfl rfl hc118 rfl (by rfl) ?_
      refine .off rfl rfl rfl hc118 rfl (by rfl) ?_
      refine .off rfl rfl rfl hc118 rfl (by rfl) ?_
      refine .gv (f_pick_true (by rfl) hc118) rfl rfl rfl hc117 (.c rfl (.c rfl .nil)) .nil ?_
      refine .v (f_pick_true (by rfl) hc117) rfl (.c rfl (.c rfl .nil)) .nil ?_
      refine .m rfl ?_
      refine .gv (f_load (n := 0) (o := 8) (off := 0) (p := []) (c := .d (eGShard y11.1)) (z := .d (eGShard y11.1)) (by rfl) rfl ty74 (by rfl)) rfl rfl rfl rfl (.c rfl .nil) (.cons rfl .nil) ?_
      obtain ⟨y119, hy120, h⟩ := bind_some h
      refine .gv (f_callP hgl (by rfl) en52 rfl (by rfl) (by rfl) (by rfl) (F52_shard_Check_ok hy120)) rfl rfl rfl rfl (.c rfl .nil) .nil ?_
      refine .gv (f_binI (by rfl) rfl (by rfl)) rfl rfl rfl rfl (.c rfl (.c rfl .nil)) .nil ?_
      refine .v (f_pick_true (by rfl) rfl) rfl (.c rfl (.c rfl .nil)) .nil ?_
      refine .a rfl ?_
      refine .nil ?_
      obtain rfl := Option.some.inj h
      refine aq_weak (s' := ⟨[(6, .d (.val (.bool (y119 == (0 : Int)))))], [], []⟩) id hb0 (.keep rfl .nil) .nil rfl (by rfl) ?_
      exact jq
     replace h := ite_f hc118 h
     refine .gv (f_move (by rfl)) rfl rfl rfl hc118 (.c rfl .nil) .nil ?_
     refine .gv (f_lenD (n := (y11.2.1).length) (by rfl) sl24 rfl (by simp)) rfl rfl rfl hc118 (.c rfl .nil) .nil ?_
     refine .gv (f_binI (by rfl) rfl (by rfl)) rfl rfl rfl hc118 (.c rfl (.c rfl .nil)) .nil ?_
     refine .gv (f_pick_false (by rfl) hc118) rfl rfl rfl hc117 (.c rfl (.c rfl .nil)) .nil ?_
     refine .v (f_pick_true (by rfl) hc117) rfl (.c rfl (.c rfl .nil)) .nil ?_
     refine .m rfl ?_
     rcases Bool.eq_false_or_eq_true (((y11.2.1).length : Int) == (0 : Int)) with hc121 | hc121
     ·replace h := ite_t hc121 h
      refine .gv (f_load (n := 0) (o := 8) (off := 0) (p := []) (c := .d (eGShard y11.1)) (z := .d (eGShard y11.1)) (by rfl) rfl ty74 (by rfl)) rfl rfl rfl hc121 (.c rfl .nil) (.cons rfl .nil) ?_
      obtain ⟨y122, hy123, h⟩ := bind_some h
      refine .gv (f_callP hgl (by rfl) en52 rfl (by rfl) (by rfl) (by rfl) (F52_shard_Check_ok hy123)) rfl rfl rfl hc121 (.c rfl .nil) .nil ?_
      refine .gv (f_binI (by rfl) rfl (by rfl)) rfl rfl rfl hc121 (.c rfl (.c rfl .nil)) .nil ?_
      refine .v (f_pick_true (by rfl) hc121) rfl (.c rfl (.c rfl .nil)) .nil ?_
      refine .a rfl ?_
      refine .nil ?_
      obtain rfl := Option.some.inj h
      refine aq_weak (s' := ⟨[(6, .d (.val (.bool (y122 == (0 : Int)))))], [], []⟩) id hb0 (.keep rfl .nil) .nil rfl (by rfl) ?_
      exact jq
     replace h := ite_f hc121 h
     refine .off rfl rfl rfl hc121 rfl (by rfl) ?_
     refine .off rfl rfl rfl hc121 rfl (by rfl) ?_
     refine .off rfl rfl rfl hc121 rfl (by rfl) ?_
     refine .v (f_pick_false (by rfl) hc121) rfl (.c rfl (.c rfl .nil)) .nil ?_
     refine .a rfl ?_
     refine .nil ?_
     obtain rfl := Option.some.inj h
     refine aq_weak (s' := ⟨[(6, .d (.val (.bool false)))], [], []⟩) id hb0 (.keep rfl .nil) .nil rfl (by rfl) ?_
     exact jq
    replace h := ite_f hc117 h
    refine .off rfl rfl rfl hc117 rfl (by rfl) ?_
    refine .off rfl rfl rfl hc117 rfl (by rfl) ?_
    refine .off rfl rfl rfl hc117 rfl (by rfl) ?_
    refine .off rfl rfl rfl hc117 rfl (by rfl) ?_
    refine .off rfl rfl rfl hc117 rfl (by rfl) ?_
    refine .offu rfl rfl rfl rfl (by rfl) ?_
    refine .offu rfl rfl rfl rfl (by rfl) ?_
    refine .offu rfl rfl rfl rfl (by rfl) ?_
    refine .off rfl rfl rfl hc117 rfl (by rfl) ?_
    refine .v (f_pick_false (by rfl) hc117) rfl (.c rfl (.c rfl .nil)) .nil ?_
    refine .m rfl ?_
    refine .off rfl rfl rfl rfl rfl (by rfl) ?_
    refine .off rfl rfl rfl rfl rfl (by rfl) ?_
    refine .off rfl rfl rfl rfl rfl (by rfl) ?_
    refine .v (f_pick_false (by rfl) rfl) rfl (.c rfl (.c rfl .nil)) .nil ?_
    refine .a rfl ?_
    refine .nil ?_
    obtain rfl := Option.some.inj h
    refine aq_weak (s' := ⟨[(6, .d (.val (.bool false)))], [], []⟩) id hb0 (.keep rfl .nil) .nil rfl (by rfl) ?_
    exact jq
   refine aq_then ?_
   refine aw_ret ?_
   obtain rfl := Option.some.inj h
   exact aq_finp hb0 rfl (.tmp rfl (by rfl) .nil) (by rfl) rfl ⟨rfl, rfl⟩
  replace h := elim_r h
  refine aq_block_ret ?_
  refine aq_then_ret ?_
  obtain rfl := Option.some.inj h
  exact aq_finp hb0 rfl (.tmp rfl (by rfl) .nil) (by rfl) rfl ⟨rfl, rfl⟩
 replace h := elim_r h
 refine aq_block_ret ?_
 refine aq_then_ret ?_
 obtain rfl := Option.some.inj h
 exact aq_finp hb0 rfl (.tmp rfl (by rfl) .nil) (by rfl) rfl ⟨rfl, rfl⟩
end Go.Proofs.YtonfljoibcnlgaaDoor
