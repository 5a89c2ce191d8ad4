/-
  PRINTED by wip/pr3.py: for each Go function a Lean function with the same answers, and the proof.
-/
import Derived.Test.YtonfljoibcnlgaaDoorXa1
namespace Go.Proofs.YtonfljoibcnlgaaDoor
open Bd
set_option maxRecDepth 10000

/- 16: beadroll/queue.Ready -/
def F16_queue_Ready_s0 (y4 : GLine × Int) (y9 : Int) (z0_0 : Int) (z0_1 : Int) (z0_2 : List GTx) : Option ((Int × Int × List GTx) ⊕ ((Int × List GTx) ⊕ (Int × List GTx))) :=
  (if (decide (z0_0 < ((((y4.1.Txs).drop (y9).toNat)).length : Int))) = true then ((rd ((y4.1.Txs).drop (y9).toNat) z0_0).bind fun (x13 : GTx) => (((if (x13.Nonce != z0_1) = true then some (true, z0_2) else (if ((z0_2 ++ ([x13] : List GTx))).length ≤ 1073741824 then some ((!true), (z0_2 ++ ([x13] : List GTx))) else none))).bind fun (o19 : Bool × List GTx) => (if o19.1 = true then some (.inr (.inr (z0_1, o19.2))) else some (.inl ((IntKind.i64.wrap (z0_0 + (1 : Int))), (IntKind.u64.wrap (z0_1 + (1 : Int))), o19.2))))) else some (.inr (.inl (z0_1, z0_2))))
def F16_queue_Ready (n : Nat) (a0 : GLine) (a1 : Int) : Option ((List GTx) × Int) :=
  ((F18_queue_Check n a0).bind fun (y1 : Int) => (if (y1 != (0 : Int)) = true then some ([], y1) else ((F73_queue_run n a0 a1).bind fun (y4 : GLine × Int) => ((F74_queue_nonces n y4.1).bind fun (y7 : (List GTx)) => ((F75_api_Tx_ahead_844 n y7 y4.2).bind fun (y9 : Int) => (if 0 ≤ y9 ∧ y9 ≤ ((y4.1.Txs).length : Int) ∧ ((y4.1.Txs).length : Int) ≤ ((y4.1.Txs).length : Int) then ((loopF (fun (z : Int × Int × List GTx) => F16_queue_Ready_s0 y4 y9 z.1 z.2.1 z.2.2) n ((0 : Int), y4.2, ([] : List GTx))).bind (Sum.elim (fun (j22 : Int × List GTx) => some (j22.2, (0 : Int))) (fun (j22 : Int × List GTx) => some (j22.2, (0 : Int))))) else none))))))
theorem F16_queue_Ready_ok {n : Nat} {a0 : GLine} {a1 : Int} {r : (List GTx) × Int} (h : F16_queue_Ready n a0 a1 = some r) :
    ACall Tryd.prog GS 16 [.d (eGLine a0), .d (.val (.int .u64 a1))] [] (fun r' hp' => r' = .res [.d (eL24 r.1), .d (.val (.int .i64 r.2))] ∧ hp' = []) := by
 refine acall_of_body mixed Tryd.func16 rfl (by rfl) ?_
 intro C hro hgl hb0
 unfold F16_queue_Ready at h
 refine aw_rs ?_
 refine .n (f_box 2 (by rfl) (by rfl)) rfl (.c rfl .nil) rfl ?_
 refine .n (f_alloc 4 (by rfl) zrv24) rfl .nil rfl ?_
 refine .a rfl ?_
 refine .nil (aq_then ?_)
 refine aw_seq ?_
 refine aw_rs ?_
 refine .l 2 0 [] (.d (eGLine a0)) (.d (eGLine a0)) ty26 ?_
 obtain ⟨y1, hy2, h⟩ := bind_some h
 refine .v (f_callP hgl (by rfl) en18 rfl (by rfl) (by rfl) (by rfl) (F18_queue_Check_ok hy2)) rfl (.c rfl .nil) .nil ?_
 refine .a rfl ?_
 refine .z ?_
 refine .m rfl ?_
 refine .b rfl rfl rfl ?_
 refine .nil (aq_then ?_)
 refine aw_cond rfl (fun hc3 => ?_) (fun hc3 => ?_)
 ·replace h := ite_t hc3 h
  refine aw_rs ?_
  refine .m rfl ?_
  refine .s (f_store (n := 0) (o := 4) (off := 0) (p := []) (c := .d (.val (.slice none 0 0))) (old := .d (.val (.slice none 0 0))) (z := .d (.val (.slice none 0 0))) (c' := .d (.val (.slice none 0 0))) rfl rfl (by rfl) ty24 (by rfl)) rfl (.c rfl (.c rfl .nil)) (.cons rfl .nil) ?_
  refine .a rfl ?_
  refine .nil (aq_then ?_)
  refine aw_ret ?_
  refine aq_then_ret ?_
  obtain rfl := Option.some.inj h
  refine aq_freezeH [] [(4, .ptr 4 0 []), (5, .d (.val (.int .i64 y1)))] [(4, .av (.d (eL24 ([]))))] .nil (.keep rfl (.keep rfl .nil)) (.cons rfl (by rfl) .nil .nil) ?_
  exact aq_finp hb0 rfl (.cell rfl rfl ty24 (by rfl) (.tmp rfl (by rfl) .nil)) (by rfl) rfl ⟨rfl, rfl⟩
 replace h := ite_f hc3 h
 refine aw_skip ?_
 refine aq_then ?_
 refine aw_seq ?_
 refine aw_rs ?_
 refine .l 2 0 [] (.d (eGLine a0)) (.d (eGLine a0)) ty26 ?_
 refine .m rfl ?_
 obtain ⟨y4, hy5, h⟩ := bind_some h
 refine .w (f_callG (xs := [.d (eGLine a0), .d (.val (.int .u64 a1))]) (r := .fn (.func 110) [] [.ptr 1058 0 [], .ptr 1059 0 []]) (hw := [(1058, .av (.d (eGLine y4.1))), (1059, .av (.d (.val (.int .u64 y4.2))))]) (fun i => bif Nat.beq i 3 then 1059 else (bif Nat.beq i 2 then 1058 else i)) [] hgl (by rfl) (cal_f en73) rfl (by rfl) (by rfl) (by rfl) (by rfl) (.cons (.same _) (.cons (.same _) .nil)) rfl rfl rfl rfl (F73_queue_run_ok hy5)) rfl (.c rfl (.c rfl .nil)) .nil (.cons rfl (.cons rfl .nil)) ?_
 refine .nil (aq_then ?_)
 refine aw_block ?_
 refine aw_range 1061 1060 hro rfl Tryd.func110 rfl rfl en110 rfl rfl rfl (by rfl) ?_
 intro C6 lp6 E6 hro6 hg6 hb6 hst6 hpd6 hps6 has6 hbd6 hpin6 hend6
 refine aw_rds ?_
 refine .v (f_fieldAddr (n := 32) (by rfl) fl26_1 (by decide)) rfl (.c rfl .nil) .nil ?_
 refine .v (f_load (n := 0) (o := 1058) (off := (0 + 32)) (p := [1]) (c := .d (eGLine y4.1)) (z := .d (eL24 y4.1.Txs)) (by rfl) rfl ty24 (by rfl)) rfl (.c rfl .nil) (.cons rfl .nil) ?_
 refine .v (f_load (n := 0) (o := 1058) (off := 0) (p := []) (c := .d (eGLine y4.1)) (z := .d (eGLine y4.1)) (by rfl) rfl ty26 (by rfl)) rfl (.c rfl .nil) (.cons rfl .nil) ?_
 obtain ⟨y7, hy8, h⟩ := bind_some h
 refine .w (f_callG (xs := [.d (eGLine y4.1)]) (r := .st [.d (eL24 y7), .fn (.func 111) [] []]) (hw := [(1062, .av (.st [.d (eL24 y7), .fn (.func 111) [] []]))]) (fun i => bif Nat.beq i 2 then 1062 else i) [] (hg6.trans hgl) (by rfl) (cal_f en74) rfl (by rfl) (by rfl) (by rfl) (by rfl) (.cons (.same _) .nil) rfl rfl rfl rfl (F74_queue_nonces_ok hy8)) rfl (.c rfl .nil) .nil (.cons rfl .nil) ?_
 refine .v (f_load (n := 0) (o := 1059) (off := 0) (p := []) (c := .d (.val (.int .u64 y4.2))) (z := .d (.val (.int .u64 y4.2))) (by rfl) rfl ty27 (by rfl)) rfl (.c rfl .nil) (.cons rfl .nil) ?_
 obtain ⟨y9, hy10, h⟩ := bind_some h
 refine .w (f_callG0 (xs := [.st [.d (eL24 y7), .fn (.func 111) [] []], .d (.val (.int .u64 y4.2))]) (r := .d (.val (.int .i64 y9))) (fun i => i) [] (hg6.trans hgl) (by rfl) (cal_f en75) rfl (by rfl) (by rfl) (by rfl) (by rfl) (.cons (.same _) (.cons (.same _) .nil)) rfl rfl (F75_api_Tx_ahead_844_ok hy10)) rfl (.c rfl (.c rfl .nil)) .nil .nil ?_
 obtain ⟨hb11, h⟩ := ifp h
 refine .v (f_sliceD (k1 := .i64) (k2 := .i64) (i := y9) (j := ((y4.1.Txs).length : Int)) (xs := (y4.1.Txs).map eGTx) (zs := ((y4.1.Txs).drop (y9).toNat).map eGTx) (by rfl) sl24 (by intro hx; first | rfl | cases hx) (by intro hx; first | (simp; done) | cases hx) hb11.1 hb11.2.1 (by rw [List.length_map]; exact hb11.2.2) (by simp [List.map_take, List.map_drop, List.take_of_length_le])) rfl (.c rfl (.c rfl .nil)) .nil ?_
 refine .v (f_lenD (n := (((y4.1.Txs).drop (y9).toNat)).length) (by rfl) sl24 rfl (by simp)) rfl (.c rfl .nil) .nil ?_
 refine .v (f_move (by rfl)) rfl (.c rfl .nil) .nil ?_
 refine .nil (by kernel_rfl) ?_
 refine aw_block ?_
 refine aw_adoptH 4 1066 99 rfl rfl ?_
 refine aw_weak (s' := ⟨[(0, .yld 1060), (2, .ptr 1059 0 []), (12, .d (eL24 ((y4.1.Txs).drop (y9).toNat))), (13, .d (.val (.int .i64 ((((y4.1.Txs).drop (y9).toNat)).length : Int)))), (14, .d (.val (.int .i64 (0 : Int))))], [(1060, .raw (.loop lp6)), (1059, .av (.d (.val (.int .u64 y4.2)))), (2, .av (.d (eGLine a0))), (4, .av (.slc 1066 0 ((([] : List GTx)).length) 99)), (1058, .av (.d (eGLine y4.1))), (1061, .raw (.deferred (some []))), (1066, .av (.d (.arr 99 ((([] : List GTx)).length) ((([] : List GTx)).map eGTx))))], []⟩) id hb6 (.keep rfl (.keep rfl (.keep rfl (.keep rfl (.keep rfl .nil))))) (.keepH rfl (.keep rfl (.keep rfl (.keep (by simp only [List.length_set]; rfl) (.keep rfl (.keepH rfl (.keep (by simp only [List.length_set]; rfl) .nil))))))) rfl (by rfl) ?_
 obtain ⟨o22, ho23, h⟩ := bind_some h
 refine aw_loopX (σ := Int × Int × List GTx) (fun z => ⟨[(0, .yld 1060), (2, .ptr 1059 0 []), (12, .d (eL24 ((y4.1.Txs).drop (y9).toNat))), (13, .d (.val (.int .i64 ((((y4.1.Txs).drop (y9).toNat)).length : Int)))), (14, .d (.val (.int .i64 z.1)))], [(1060, .raw (.loop lp6)), (1059, .av (.d (.val (.int .u64 z.2.1)))), (2, .av (.d (eGLine a0))), (4, .av (.slc 1066 0 ((z.2.2).length) 99)), (1058, .av (.d (eGLine y4.1))), (1061, .raw (.deferred (some []))), (1066, .av (.d (.arr 99 ((z.2.2).length) ((z.2.2).map eGTx))))], []⟩) (Sum.elim (fun _ => .exit 0) (fun _ => .ret)) (Sum.elim (fun j22 => ⟨[], [(2, .av (.d (eGLine a0))), (4, .av (.slc 1066 0 ((j22.2).length) 99)), (1058, .av (.d (eGLine y4.1))), (1059, .av (.d (.val (.int .u64 j22.1)))), (1060, .raw (.loop lp6)), (1061, .raw (.deferred (some []))), (1066, .av (.d (.arr 99 ((j22.2).length) ((j22.2).map eGTx))))], []⟩) (fun j22 => ⟨[], [(2, .av (.d (eGLine a0))), (4, .av (.slc 1066 0 ((j22.2).length) 99)), (1058, .av (.d (eGLine y4.1))), (1059, .av (.d (.val (.int .u64 j22.1)))), (1060, .raw (.loop lp6)), (1061, .raw (.deferred (some []))), (1066, .av (.d (.arr 99 ((j22.2).length) ((j22.2).map eGTx))))], []⟩)) ho23 (by intro b; rcases b with _ | _ <;> rfl) ?_ ?_
 ·clear h ho23
  rintro ⟨z0_0, z0_1, z0_2⟩ o h
  change F16_queue_Ready_s0 y4 y9 z0_0 z0_1 z0_2 = some o at h
  unfold F16_queue_Ready_s0 at h
  show AW _ _ _ ⟨[(0, .yld 1060), (2, .ptr 1059 0 []), (12, .d (eL24 ((y4.1.Txs).drop (y9).toNat))), (13, .d (.val (.int .i64 ((((y4.1.Txs).drop (y9).toNat)).length : Int)))), (14, .d (.val (.int .i64 z0_0)))], [(1060, .raw (.loop lp6)), (1059, .av (.d (.val (.int .u64 z0_1)))), (2, .av (.d (eGLine a0))), (4, .av (.slc 1066 0 ((z0_2).length) 99)), (1058, .av (.d (eGLine y4.1))), (1061, .raw (.deferred (some []))), (1066, .av (.d (.arr 99 ((z0_2).length) ((z0_2).map eGTx))))], []⟩
  refine aw_rs ?_
  refine .b rfl rfl rfl ?_
  refine .nil (aq_then ?_)
  refine aw_seq ?_
  refine aw_cond rfl (fun hc12 => ?_) (fun hc12 => ?_)
  ·replace h := ite_t hc12 h
   refine aw_skip ?_
   refine aq_then ?_
   refine aw_seq ?_
   refine aw_block ?_
   refine aw_rs ?_
   obtain ⟨x13, hx14, h⟩ := bind_some h
   obtain ⟨hx15, hx14⟩ := rd_some hx14
   refine .v (f_indexS (by rfl) sl24 hx15 (rd_map _ hx14)) rfl (.c rfl (.c rfl .nil)) .nil ?_
   refine .v (f_loadR (z := (eGTx x13)) (by rfl) ty36) rfl (.c rfl .nil) .nil ?_
   refine .n (f_alloc 5 (by rfl) zr36) rfl .nil rfl ?_
   refine .s (f_store (n := 0) (o := 5) (off := 0) (p := []) (c := .d (eGTx (⟨(List.replicate 32 (0 : Int)), (List.replicate 32 (0 : Int)), (0 : Int), (0 : Int), (0 : Int), (List.replicate 32 (0 : Int))⟩ : GTx))) (old := .d (eGTx (⟨(List.replicate 32 (0 : Int)), (List.replicate 32 (0 : Int)), (0 : Int), (0 : Int), (0 : Int), (List.replicate 32 (0 : Int))⟩ : GTx))) (z := .d (eGTx x13)) (c' := .d (eGTx x13)) rfl rfl (by rfl) ty36 (by rfl)) rfl (.c rfl (.c rfl .nil)) (.cons rfl .nil) ?_
   refine .nil (aq_then ?_)
   refine aw_seq ?_
   refine aw_seq ?_
   obtain ⟨o19, ho21, h⟩ := bind_some h
   refine aw_join (.normal) ⟨[(0, .yld 1060), (2, .ptr 1059 0 []), (12, .d (eL24 ((y4.1.Txs).drop (y9).toNat))), (13, .d (.val (.int .i64 ((((y4.1.Txs).drop (y9).toNat)).length : Int)))), (14, .d (.val (.int .i64 z0_0))), (27, .d (.val (.bool o19.1)))], [(1060, .raw (.loop lp6)), (1059, .av (.d (.val (.int .u64 z0_1)))), (2, .av (.d (eGLine a0))), (4, .av (.slc 1066 0 ((o19.2).length) 99)), (1058, .av (.d (eGLine y4.1))), (1061, .raw (.deferred (some []))), (1066, .av (.d (.arr 99 ((o19.2).length) ((o19.2).map eGTx))))], []⟩ ?_ ?_
   ·replace h := ho21
    refine aw_r ?_
    refine .v (f_fieldAddr (n := 64) (by rfl) fl36_2 (by decide)) rfl (.c rfl .nil) .nil ?_
    refine .l 5 (0 + 64) [2] (.d (eGTx x13)) (.d (.val (.int .u64 x13.Nonce))) ty27 ?_
    refine .l 1059 0 [] (.d (.val (.int .u64 z0_1))) (.d (.val (.int .u64 z0_1))) ty27 ?_
    refine .b rfl rfl rfl ?_
    refine .m rfl ?_
    rcases Bool.eq_false_or_eq_true (x13.Nonce != z0_1) with hc16 | hc16
    ·replace h := ite_t hc16 h
     refine .off rfl rfl rfl hc16 rfl (by rfl) ?_
     refine .off rfl rfl rfl hc16 rfl (by rfl) ?_
     refine .off rfl rfl rfl hc16 rfl (by rfl) ?_
     refine .off rfl rfl rfl hc16 rfl (by rfl) ?_
     refine .v (f_pick_true (by rfl) hc16) rfl (.c rfl (.c rfl .nil)) .nil ?_
     refine .nil ?_
     obtain rfl := Option.some.inj h
     refine aq_weak (s' := ⟨[(0, .yld 1060), (2, .ptr 1059 0 []), (12, .d (eL24 ((y4.1.Txs).drop (y9).toNat))), (13, .d (.val (.int .i64 ((((y4.1.Txs).drop (y9).toNat)).length : Int)))), (14, .d (.val (.int .i64 z0_0))), (27, .d (.val (.bool true)))], [(1060, .raw (.loop lp6)), (1059, .av (.d (.val (.int .u64 z0_1)))), (2, .av (.d (eGLine a0))), (4, .av (.slc 1066 0 ((z0_2).length) 99)), (1058, .av (.d (eGLine y4.1))), (1061, .raw (.deferred (some []))), (1066, .av (.d (.arr 99 ((z0_2).length) ((z0_2).map eGTx))))], []⟩) id hb6 (.keep rfl (.keep rfl (.keep rfl (.keep rfl (.keep rfl (.keep rfl .nil)))))) (.keepH rfl (.keep rfl (.keep rfl (.keep rfl (.keep rfl (.keepH rfl (.keep rfl .nil))))))) rfl (by rfl) ?_
     exact jq
    replace h := ite_f hc16 h
    refine .gv (f_move (by rfl)) rfl rfl rfl hc16 (.c rfl .nil) .nil ?_
    refine .gv (f_load (n := 0) (o := 5) (off := 0) (p := []) (c := .d (eGTx x13)) (z := .d (eGTx x13)) (by rfl) rfl ty36 (by rfl)) rfl rfl rfl hc16 (.c rfl .nil) (.cons rfl .nil) ?_
    refine R.yield (L := 1060) (r := lp6) (ns2 := Tryd.f16.ntmps) (xs := [.d (eGTx x13)]) (wanted_on rfl rfl rfl hc16) (by rfl) rfl rfl hst6 (by rw [hps6]; rfl) rfl (by rfl) (.c rfl .nil) hpin6 (by rw [hps6]; rfl) ?_
    intro C17 Y17 A17 hr17 hh17 hk17 hp17 he17 hn17
    refine aw_code has6 ?_
    rw [hps6]
    refine aw_r ?_
    refine .n (f_alloc 7 (by rfl) zr36) rfl .nil rfl ?_
    refine .s (f_store (n := 0) (o := 7) (off := 0) (p := []) (c := .d (eGTx (⟨(List.replicate 32 (0 : Int)), (List.replicate 32 (0 : Int)), (0 : Int), (0 : Int), (0 : Int), (List.replicate 32 (0 : Int))⟩ : GTx))) (old := .d (eGTx (⟨(List.replicate 32 (0 : Int)), (List.replicate 32 (0 : Int)), (0 : Int), (0 : Int), (0 : Int), (List.replicate 32 (0 : Int))⟩ : GTx))) (z := .d (eGTx x13)) (c' := .d (eGTx x13)) rfl rfl (by rfl) ty36 (by rfl)) rfl (.c rfl (.c rfl .nil)) (.cons rfl .nil) ?_
    refine .nil ?_
    refine hn17 _ rfl ?_
    refine aw_code hbd6 ?_
    refine aw_block ?_
    refine aw_r ?_
    refine .l 4 0 [] (.slc 1066 0 ((z0_2).length) 99) (.slc 1066 0 ((z0_2).length) 99) ty24 ?_
    refine .l 7 0 [] (.d (eGTx x13)) (.d (eGTx x13)) ty36 ?_
    refine .n (f_buildS (xs := [(0, .d (eGTx x13))]) (z := (.st [(eA22 (List.replicate 32 (0 : Int))), (eA22 (List.replicate 32 (0 : Int))), (.val (.int .u64 (0 : Int))), (.val (.int .u64 (0 : Int))), (.val (.int .u64 (0 : Int))), (eA22 (List.replicate 32 (0 : Int)))])) (zs := (([x13] : List GTx)).map eGTx) 1069 (by rfl) el24 zel24 (by rfl) (by decide) (by decide) rfl (by rfl) ⟨_, _, _, rfl, pl24_0, rfl, rfl, trivial⟩ (by rfl)) rfl (.c rfl .nil) rfl ?_
    obtain ⟨hb18, h⟩ := ifp h
    refine .w (f_appendC (m := ((z0_2 ++ ([x13] : List GTx))).length) (ys := (([x13] : List GTx) : List GTx).map eGTx) (xs := (z0_2).map eGTx) (zs := ((z0_2 ++ ([x13] : List GTx))).map eGTx) 1070 (by rfl) el24 (by simp) (by simp) (by simp [List.map_drop]) (by simp) (Nat.le_trans (Nat.mul_le_mul_right _ hb18) (by decide)) (Nat.le_trans hb18 (by decide)) srcW) rfl (.c rfl (.c rfl .nil)) (.cons rfl (.cons rfl .nil)) (.cons rfl .nil) ?_
    refine .s (f_store (n := 0) (o := 4) (off := 0) (p := []) (c := .slc 1066 0 ((z0_2).length) 99) (old := .slc 1066 0 ((z0_2).length) 99) (z := .slc 1070 0 (((z0_2 ++ ([x13] : List GTx))).length) 99) (c' := .slc 1070 0 (((z0_2 ++ ([x13] : List GTx))).length) 99) rfl rfl (by rfl) ty24 (by rfl)) rfl (.c rfl (.c rfl .nil)) (.cons rfl .nil) ?_
    refine .nil ?_
    refine aq_block ?_
    refine he17 .normal none _ rfl rfl rfl ?_
    refine R.again hst6 hpd6 ?_
    refine .gv (f_not (by rfl)) rfl rfl rfl hc16 (.c rfl .nil) .nil ?_
    refine .v (f_pick_false (by rfl) hc16) rfl (.c rfl (.c rfl .nil)) .nil ?_
    refine .nil ?_
    obtain rfl := Option.some.inj h
    refine aq_weak (s' := ⟨[(0, .yld 1060), (2, .ptr 1059 0 []), (12, .d (eL24 ((y4.1.Txs).drop (y9).toNat))), (13, .d (.val (.int .i64 ((((y4.1.Txs).drop (y9).toNat)).length : Int)))), (14, .d (.val (.int .i64 z0_0))), (27, .d (.val (.bool (!true))))], [(1060, .raw (.loop lp6)), (1059, .av (.d (.val (.int .u64 z0_1)))), (2, .av (.d (eGLine a0))), (4, .av (.slc 1066 0 (((z0_2 ++ ([x13] : List GTx))).length) 99)), (1058, .av (.d (eGLine y4.1))), (1061, .raw (.deferred (some []))), (1066, .av (.d (.arr 99 (((z0_2 ++ ([x13] : List GTx))).length) (((z0_2 ++ ([x13] : List GTx))).map eGTx))))], []⟩) (fun i => (bif Nat.beq i 1066 then 1070 else i)) hb6 (.cons rfl (.cons rfl (.cons rfl (.cons rfl (.cons rfl (.cons rfl .nil)))))) (.cons rfl (.cons rfl (.cons rfl (.cons rfl (.cons rfl (.cons rfl (.cons rfl .nil))))))) rfl (by rfl) ?_
    exact jq
   refine aq_then ?_
   refine aw_cond rfl (fun hc20 => ?_) (fun hc20 => ?_)
   ·replace h := ite_t hc20 h
    refine aw_ret ?_
    refine aq_then_ret ?_
    refine aq_block_ret ?_
    refine aq_then_ret ?_
    obtain rfl := Option.some.inj h
    refine aq_weak (s' := ⟨[], [(2, .av (.d (eGLine a0))), (4, .av (.slc 1066 0 ((o19.2).length) 99)), (1058, .av (.d (eGLine y4.1))), (1059, .av (.d (.val (.int .u64 z0_1)))), (1060, .raw (.loop lp6)), (1061, .raw (.deferred (some []))), (1066, .av (.d (.arr 99 ((o19.2).length) ((o19.2).map eGTx))))], []⟩) id hb6 .nil (.keep rfl (.keep rfl (.keep rfl (.keep rfl (.keepH rfl (.keepH rfl (.keep rfl .nil))))))) rfl (by rfl) ?_
    exact jq
   replace h := ite_f hc20 h
   refine aw_skip ?_
   refine aq_then ?_
   refine aw_r ?_
   refine .l 1059 0 [] (.d (.val (.int .u64 z0_1))) (.d (.val (.int .u64 z0_1))) ty27 ?_
   refine .b rfl rfl rfl ?_
   refine .s (f_store (n := 0) (o := 1059) (off := 0) (p := []) (c := .d (.val (.int .u64 z0_1))) (old := .d (.val (.int .u64 z0_1))) (z := .d (.val (.int .u64 (IntKind.u64.wrap (z0_1 + (1 : Int)))))) (c' := .d (.val (.int .u64 (IntKind.u64.wrap (z0_1 + (1 : Int)))))) rfl rfl (by rfl) ty27 (by rfl)) rfl (.c rfl (.c rfl .nil)) (.cons rfl .nil) ?_
   refine .nil ?_
   refine aq_block ?_
   refine aq_then ?_
   refine aw_r ?_
   refine .b rfl rfl rfl ?_
   refine .m rfl ?_
   refine .nil ?_
   obtain rfl := Option.some.inj h
   refine aq_weak (s' := ⟨[(0, .yld 1060), (2, .ptr 1059 0 []), (12, .d (eL24 ((y4.1.Txs).drop (y9).toNat))), (13, .d (.val (.int .i64 ((((y4.1.Txs).drop (y9).toNat)).length : Int)))), (14, .d (.val (.int .i64 (IntKind.i64.wrap (z0_0 + (1 : Int))))))], [(1060, .raw (.loop lp6)), (1059, .av (.d (.val (.int .u64 (IntKind.u64.wrap (z0_1 + (1 : Int))))))), (2, .av (.d (eGLine a0))), (4, .av (.slc 1066 0 ((o19.2).length) 99)), (1058, .av (.d (eGLine y4.1))), (1061, .raw (.deferred (some []))), (1066, .av (.d (.arr 99 ((o19.2).length) ((o19.2).map eGTx))))], []⟩) id hb6 (.keep rfl (.keep rfl (.keep rfl (.keep rfl (.keep rfl .nil))))) (.keepH rfl (.keep rfl (.keep rfl (.keep rfl (.keep rfl (.keepH rfl (.keep rfl .nil))))))) rfl (by rfl) ?_
   exact jq
  replace h := ite_f hc12 h
  refine aw_exit ?_
  refine aq_then_exit ?_
  obtain rfl := Option.some.inj h
  refine aq_weak (s' := ⟨[], [(2, .av (.d (eGLine a0))), (4, .av (.slc 1066 0 ((z0_2).length) 99)), (1058, .av (.d (eGLine y4.1))), (1059, .av (.d (.val (.int .u64 z0_1)))), (1060, .raw (.loop lp6)), (1061, .raw (.deferred (some []))), (1066, .av (.d (.arr 99 ((z0_2).length) ((z0_2).map eGTx))))], []⟩) id hb6 .nil (.keep rfl (.keep rfl (.keep rfl (.keep rfl (.keepH rfl (.keepH rfl (.keep rfl .nil))))))) rfl (by rfl) ?_
  exact jq
 rcases o22 with j22 | j22
 ·replace h := elim_l h
  refine aq_block_exit ?_
  refine hend6 .normal _ lp6.state lp6.pending (.inr rfl) rfl rfl (by rw [hst6]; simp) ?_
  rw [hpd6]
  refine aq_block ?_
  refine aq_then ?_
  refine aw_rs ?_
  refine .l 4 0 [] (.slc 1066 0 ((j22.2).length) 99) (.slc 1066 0 ((j22.2).length) 99) ty24 ?_
  refine .s (f_store (n := 0) (o := 4) (off := 0) (p := []) (c := .slc 1066 0 ((j22.2).length) 99) (old := .slc 1066 0 ((j22.2).length) 99) (z := .slc 1066 0 ((j22.2).length) 99) (c' := .slc 1066 0 ((j22.2).length) 99) rfl rfl (by rfl) ty24 (by rfl)) rfl (.c rfl (.c rfl .nil)) (.cons rfl .nil) ?_
  refine .a rfl ?_
  refine .nil (aq_then ?_)
  refine aw_ret ?_
  obtain rfl := Option.some.inj h
  refine aq_marks (.inl rfl) ⟨rfl, trivial⟩ ?_
  refine aq_freezeH [(1066, (.arr 99 ((j22.2).length) ((j22.2).map eGTx)))] [(4, .ptr 4 0 []), (5, .d (.val (.int .i64 (0 : Int))))] [(4, .av (.d (eL24 j22.2)))] (.cons rfl .nil) (.keep rfl (.keep rfl .nil)) (.cons rfl (by rfl) (.whole (.head _)) .nil) ?_
  exact aq_finp hb0 rfl (.cell rfl rfl ty24 (by rfl) (.tmp rfl (by rfl) .nil)) (by rfl) rfl ⟨rfl, rfl⟩
 replace h := elim_r h
 refine aq_block_ret ?_
 refine hend6 .ret _ lp6.state lp6.pending (.inl rfl) rfl rfl (by rw [hst6]; simp) ?_
 rw [hpd6]
 refine aq_block ?_
 refine aq_then ?_
 refine aw_rs ?_
 refine .l 4 0 [] (.slc 1066 0 ((j22.2).length) 99) (.slc 1066 0 ((j22.2).length) 99) ty24 ?_
 refine .s (f_store (n := 0) (o := 4) (off := 0) (p := []) (c := .slc 1066 0 ((j22.2).length) 99) (old := .slc 1066 0 ((j22.2).length) 99) (z := .slc 1066 0 ((j22.2).length) 99) (c' := .slc 1066 0 ((j22.2).length) 99) rfl rfl (by rfl) ty24 (by rfl)) rfl (.c rfl (.c rfl .nil)) (.cons rfl .nil) ?_
 refine .a rfl ?_
 refine .nil (aq_then ?_)
 refine aw_ret ?_
 obtain rfl := Option.some.inj h
 refine aq_marks (.inl rfl) ⟨rfl, trivial⟩ ?_
 refine aq_freezeH [(1066, (.arr 99 ((j22.2).length) ((j22.2).map eGTx)))] [(4, .ptr 4 0 []), (5, .d (.val (.int .i64 (0 : Int))))] [(4, .av (.d (eL24 j22.2)))] (.cons rfl .nil) (.keep rfl (.keep rfl .nil)) (.cons rfl (by rfl) (.whole (.head _)) .nil) ?_
 exact aq_finp hb0 rfl (.cell rfl rfl ty24 (by rfl) (.tmp rfl (by rfl) .nil)) (by rfl) rfl ⟨rfl, rfl⟩
end Go.Proofs.YtonfljoibcnlgaaDoor
