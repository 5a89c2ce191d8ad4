/-
  PRINTED by wip/pr3.py: for each Go function a Lean function with the same answers, and the proof.
-/
import Derived.Test.YtonfljoibcnlgaaDoorXb1
namespace Go.Proofs.YtonfljoibcnlgaaDoor
open Bd
set_option maxRecDepth 10000

/- 64: beadroll/acct.Get -/
def F64_acct_Get (n : Nat) (a0 : GTree) (a1 : (List Int)) : Option (GAccount × Int) :=
  ((F67_acct_Check n a0).bind fun (y1 : Int) => (if (y1 != (0 : Int)) = true then some ((⟨(0 : Int), (0 : Int)⟩ : GAccount), y1) else ((F103_tree_Get n a0 a1).bind fun (y4 : (List Int) × Bool) => (if (!y4.2) = true then some ((⟨(0 : Int), (0 : Int)⟩ : GAccount), (0 : Int)) else ((F104_acct_Read n y4.1).bind fun (y7 : GAccount × Int) => some (y7.1, y7.2))))))
theorem F64_acct_Get_ok {n : Nat} {a0 : GTree} {a1 : (List Int)} {r : GAccount × Int} (h : F64_acct_Get n a0 a1 = some r) :
    ACall Tryd.prog GS 64 [.d (eGTree a0), .d (eA22 a1)] [] (fun r' hp' => r' = .res [.d (eGAccount r.1), .d (.val (.int .i64 r.2))] ∧ hp' = []) := by
 refine acall_of_body mixed Tryd.func64 rfl (by rfl) ?_
 intro C hro hgl hb0
 unfold F64_acct_Get at h
 refine aw_rs ?_
 refine .n (f_box 2 (by rfl) (by rfl)) rfl (.c rfl .nil) rfl ?_
 refine .n (f_box 3 (by rfl) (by rfl)) rfl (.c rfl .nil) rfl ?_
 refine .n (f_alloc 4 (by rfl) zr95) rfl .nil rfl ?_
 refine .a rfl ?_
 refine .nil (aq_then ?_)
 refine aw_seq ?_
 refine aw_rs ?_
 refine .l 2 0 [] (.d (eGTree a0)) (.d (eGTree a0)) ty90 ?_
 obtain ⟨y1, hy2, h⟩ := bind_some h
 refine .v (f_callP hgl (by rfl) en67 rfl (by rfl) (by rfl) (by rfl) (F67_acct_Check_ok hy2)) rfl (.c rfl .nil) .nil ?_
 refine .a rfl ?_
 refine .z ?_
 refine .m rfl ?_
 refine .b rfl rfl rfl ?_
 refine .nil (aq_then ?_)
 refine aw_cond rfl (fun hc3 => ?_) (fun hc3 => ?_)
 ·replace h := ite_t hc3 h
  refine aw_rs ?_
  refine .v (f_build (xs := []) (z' := .d (eGAccount (⟨(0 : Int), (0 : Int)⟩ : GAccount))) (by rfl) zr95 ag95 rfl (by rfl) trivial (by rfl) (by rfl)) rfl .nil .nil ?_
  refine .m rfl ?_
  refine .s (f_store (n := 0) (o := 4) (off := 0) (p := []) (c := .d (eGAccount (⟨(0 : Int), (0 : Int)⟩ : GAccount))) (old := .d (eGAccount (⟨(0 : Int), (0 : Int)⟩ : GAccount))) (z := .d (eGAccount (⟨(0 : Int), (0 : Int)⟩ : GAccount))) (c' := .d (eGAccount (⟨(0 : Int), (0 : Int)⟩ : GAccount))) rfl rfl (by rfl) ty95 (by rfl)) rfl (.c rfl (.c rfl .nil)) (.cons rfl .nil) ?_
  refine .a rfl ?_
  refine .nil (aq_then ?_)
  refine aw_ret ?_
  refine aq_then_ret ?_
  obtain rfl := Option.some.inj h
  exact aq_finp hb0 rfl (.cell rfl rfl ty95 (by rfl) (.tmp rfl (by rfl) .nil)) (by rfl) rfl ⟨rfl, rfl⟩
 replace h := ite_f hc3 h
 refine aw_skip ?_
 refine aq_then ?_
 refine aw_rs ?_
 refine .l 2 0 [] (.d (eGTree a0)) (.d (eGTree a0)) ty90 ?_
 refine .l 3 0 [] (.d (eA22 a1)) (.d (eA22 a1)) ty23 ?_
 obtain ⟨y4, hy5, h⟩ := bind_some h
 refine .v (f_callP hgl (by rfl) en103 rfl (by rfl) (by rfl) (by rfl) (F103_tree_Get_ok hy5)) rfl (.c rfl (.c rfl .nil)) .nil ?_
 refine .m rfl ?_
 refine .v (f_extract (by rfl) rfl) rfl (.c rfl .nil) .nil ?_
 refine .v (f_extract (by rfl) rfl) rfl (.c rfl .nil) .nil ?_
 refine .a rfl ?_
 refine .a rfl ?_
 refine .nil (aq_then ?_)
 refine aw_seq ?_
 refine aw_rs ?_
 refine .m rfl ?_
 refine .v (f_not (by rfl)) rfl (.c rfl .nil) .nil ?_
 refine .nil (aq_then ?_)
 refine aw_cond rfl (fun hc6 => ?_) (fun hc6 => ?_)
 ·replace h := ite_t hc6 h
  refine aw_rs ?_
  refine .v (f_build (xs := []) (z' := .d (eGAccount (⟨(0 : Int), (0 : Int)⟩ : GAccount))) (by rfl) zr95 ag95 rfl (by rfl) trivial (by rfl) (by rfl)) rfl .nil .nil ?_
  refine .s (f_store (n := 0) (o := 4) (off := 0) (p := []) (c := .d (eGAccount (⟨(0 : Int), (0 : Int)⟩ : GAccount))) (old := .d (eGAccount (⟨(0 : Int), (0 : Int)⟩ : GAccount))) (z := .d (eGAccount (⟨(0 : Int), (0 : Int)⟩ : GAccount))) (c' := .d (eGAccount (⟨(0 : Int), (0 : Int)⟩ : GAccount))) rfl rfl (by rfl) ty95 (by rfl)) rfl (.c rfl (.c rfl .nil)) (.cons rfl .nil) ?_
  refine .a rfl ?_
  refine .nil (aq_then ?_)
  refine aw_ret ?_
  refine aq_then_ret ?_
  obtain rfl := Option.some.inj h
  exact aq_finp hb0 rfl (.cell rfl rfl ty95 (by rfl) (.tmp rfl (by rfl) .nil)) (by rfl) rfl ⟨rfl, rfl⟩
 replace h := ite_f hc6 h
 refine aw_skip ?_
 refine aq_then ?_
 refine aw_rs ?_
 refine .m rfl ?_
 obtain ⟨y7, hy8, h⟩ := bind_some h
 refine .v (f_callP hgl (by rfl) en104 rfl (by rfl) (by rfl) (by rfl) (F104_acct_Read_ok hy8)) rfl (.c rfl .nil) .nil ?_
 refine .v (f_extract (by rfl) rfl) rfl (.c rfl .nil) .nil ?_
 refine .v (f_extract (by rfl) rfl) rfl (.c rfl .nil) .nil ?_
 refine .s (f_store (n := 0) (o := 4) (off := 0) (p := []) (c := .d (eGAccount (⟨(0 : Int), (0 : Int)⟩ : GAccount))) (old := .d (eGAccount (⟨(0 : Int), (0 : Int)⟩ : GAccount))) (z := .d (eGAccount y7.1)) (c' := .d (eGAccount y7.1)) rfl rfl (by rfl) ty95 (by rfl)) rfl (.c rfl (.c rfl .nil)) (.cons rfl .nil) ?_
 refine .a rfl ?_
 refine .nil (aq_then ?_)
 refine aw_ret ?_
 obtain rfl := Option.some.inj h
 exact aq_finp hb0 rfl (.cell rfl rfl ty95 (by rfl) (.tmp rfl (by rfl) .nil)) (by rfl) rfl ⟨rfl, rfl⟩

/- 128: slices.IndexFunc[[]beadroll/api.Tx,beadroll/api.Tx] -/
def F128_api_Tx_687_s0 (n : Nat) (a0 : (List GTx)) (z0_0 : Int) : Option ((Int) ⊕ ((Unit) ⊕ (Int))) :=
  (if (decide (z0_0 < ((a0).length : Int))) = true then ((rd a0 z0_0).bind fun (x2 : GTx) => ((F102_shard_Back_1 n x2).bind fun (y5 : Bool) => (if y5 = true then some (.inr (.inr z0_0)) else some (.inl (IntKind.i64.wrap (z0_0 + (1 : Int))))))) else some (.inr (.inl ())))
def F128_api_Tx_687 (n : Nat) (a0 : (List GTx)) : Option (Int) :=
  ((loopF (fun (z : Int) => F128_api_Tx_687_s0 n a0 z) n (0 : Int)).bind (Sum.elim (fun (j8 : Unit) => some (-1 : Int)) (fun (j8 : Int) => some j8)))
theorem F128_api_Tx_687_ok {n : Nat} {a0 : (List GTx)} {r : Int} (h : F128_api_Tx_687 n a0 = some r) :
    ACall Tryd.prog GS 128 [.d (eL24 a0), .fn (.func 102) [] []] [] (fun r' hp' => r' = .d (.val (.int .i64 r)) ∧ hp' = []) := by
 refine acall_of_body mixed Tryd.func128 rfl (by rfl) ?_
 intro C hro hgl hb0
 unfold F128_api_Tx_687 at h
 refine aw_rs ?_
 refine .a rfl ?_
 refine .nil (aq_then ?_)
 refine aw_seq ?_
 refine aw_rs ?_
 refine .m rfl ?_
 refine .v (f_lenD (n := (a0).length) (by rfl) sl24 rfl (by simp)) rfl (.c rfl .nil) .nil ?_
 refine .m rfl ?_
 refine .nil (aq_then ?_)
 refine aw_block ?_
 refine aw_weak (s' := ⟨[(0, .d (eL24 a0)), (1, .fn (.func 102) [] []), (7, .d (.val (.int .i64 ((a0).length : Int)))), (8, .d (.val (.int .i64 (0 : Int))))], [], []⟩) id hb0 (.keep rfl (.keep rfl (.keep rfl (.keep rfl .nil)))) .nil rfl (by rfl) ?_
 obtain ⟨o8, ho9, h⟩ := bind_some h
 refine aw_loopX (σ := Int) (fun z => ⟨[(0, .d (eL24 a0)), (1, .fn (.func 102) [] []), (7, .d (.val (.int .i64 ((a0).length : Int)))), (8, .d (.val (.int .i64 z)))], [], []⟩) (Sum.elim (fun _ => .exit 0) (fun _ => .ret)) (Sum.elim (fun j8 => ⟨[], [], []⟩) (fun j8 => ⟨[(4, .d (.val (.int .i64 j8)))], [], []⟩)) ho9 (by intro b; rcases b with _ | _ <;> rfl) ?_ ?_
 ·clear h ho9
  intro z0_0 o h
  change F128_api_Tx_687_s0 n a0 z0_0 = some o at h
  unfold F128_api_Tx_687_s0 at h
  show AW _ _ _ ⟨[(0, .d (eL24 a0)), (1, .fn (.func 102) [] []), (7, .d (.val (.int .i64 ((a0).length : Int)))), (8, .d (.val (.int .i64 z0_0)))], [], []⟩
  refine aw_rs ?_
  refine .b rfl rfl rfl ?_
  refine .nil (aq_then ?_)
  refine aw_seq ?_
  refine aw_cond rfl (fun hc1 => ?_) (fun hc1 => ?_)
  ·replace h := ite_t hc1 h
   refine aw_skip ?_
   refine aq_then ?_
   refine aw_seq ?_
   refine aw_block ?_
   refine aw_rs ?_
   refine .m rfl ?_
   refine .a rfl ?_
   refine .z ?_
   refine .m rfl ?_
   refine .m rfl ?_
   refine .m rfl ?_
   obtain ⟨x2, hx3, h⟩ := bind_some h
   obtain ⟨hx4, hx3⟩ := rd_some hx3
   refine .v (f_indexS (by rfl) sl24 hx4 (rd_map _ hx3)) rfl (.c rfl (.c rfl .nil)) .nil ?_
   refine .v (f_loadR (z := (eGTx x2)) (by rfl) ty36) rfl (.c rfl .nil) .nil ?_
   obtain ⟨y5, hy6, h⟩ := bind_some h
   refine .w (f_callG0 (xs := [.d (eGTx x2)]) (r := .d (.val (.bool y5))) (fun i => i) [] hgl (by rfl) (cal_v (first := []) (caps := []) en102) rfl (by rfl) (by rfl) (by rfl) (by rfl) (.cons (.same _) .nil) rfl rfl (F102_shard_Back_1_ok hy6)) rfl (.c rfl (.c rfl .nil)) .nil .nil ?_
   refine .nil (aq_then ?_)
   refine aw_cond rfl (fun hc7 => ?_) (fun hc7 => ?_)
   ·replace h := ite_t hc7 h
    refine aw_rs ?_
    refine .m rfl ?_
    refine .a rfl ?_
    refine .nil (aq_then ?_)
    refine aw_ret ?_
    refine aq_block_ret ?_
    refine aq_then_ret ?_
    obtain rfl := Option.some.inj h
    refine aq_weak (s' := ⟨[(4, .d (.val (.int .i64 z0_0)))], [], []⟩) id hb0 (.keep rfl .nil) .nil rfl (by rfl) ?_
    exact jq
   replace h := ite_f hc7 h
   refine aw_skip ?_
   refine aq_block ?_
   refine aq_then ?_
   refine aw_r ?_
   refine .b rfl rfl rfl ?_
   refine .m rfl ?_
   refine .nil ?_
   obtain rfl := Option.some.inj h
   refine aq_weak (s' := ⟨[(0, .d (eL24 a0)), (1, .fn (.func 102) [] []), (7, .d (.val (.int .i64 ((a0).length : Int)))), (8, .d (.val (.int .i64 (IntKind.i64.wrap (z0_0 + (1 : Int))))))], [], []⟩) id hb0 (.keep rfl (.keep rfl (.keep rfl (.keep rfl .nil)))) .nil rfl (by rfl) ?_
   exact jq
  replace h := ite_f hc1 h
  refine aw_exit ?_
  refine aq_then_exit ?_
  obtain rfl := Option.some.inj h
  refine aq_weak (s' := ⟨[], [], []⟩) id hb0 .nil .nil rfl (by rfl) ?_
  exact jq
 rcases o8 with j8 | j8
 ·replace h := elim_l h
  refine aq_block_exit ?_
  refine aq_then ?_
  refine aw_rs ?_
  refine .a rfl ?_
  refine .nil (aq_then ?_)
  refine aw_ret ?_
  obtain rfl := Option.some.inj h
  exact aq_finp hb0 rfl (.tmp rfl (by rfl) .nil) (by rfl) rfl ⟨rfl, rfl⟩
 replace h := elim_r h
 refine aq_block_ret ?_
 refine aq_then_ret ?_
 obtain rfl := Option.some.inj h
 exact aq_finp hb0 rfl (.tmp rfl (by rfl) .nil) (by rfl) rfl ⟨rfl, rfl⟩

/- 101: slices.ContainsFunc[[]beadroll/api.Tx,beadroll/api.Tx] -/
def F101_api_Tx_76e (n : Nat) (a0 : (List GTx)) : Option (Bool) :=
  ((F128_api_Tx_687 n a0).bind fun (y1 : Int) => some (decide (y1 ≥ (0 : Int))))
theorem F101_api_Tx_76e_ok {n : Nat} {a0 : (List GTx)} {r : Bool} (h : F101_api_Tx_76e n a0 = some r) :
    ACall Tryd.prog GS 101 [.d (eL24 a0), .fn (.func 102) [] []] [] (fun r' hp' => r' = .d (.val (.bool r)) ∧ hp' = []) := by
 refine acall_of_body mixed Tryd.func101 rfl (by rfl) ?_
 intro C hro hgl hb0
 unfold F101_api_Tx_76e at h
 refine aw_rs ?_
 refine .a rfl ?_
 refine .z ?_
 refine .m rfl ?_
 refine .m rfl ?_
 obtain ⟨y1, hy2, h⟩ := bind_some h
 refine .v (f_callP hgl (by rfl) en128 rfl (by rfl) (by rfl) (by rfl) (F128_api_Tx_687_ok hy2)) rfl (.c rfl (.c rfl .nil)) .nil ?_
 refine .b rfl rfl rfl ?_
 refine .a rfl ?_
 refine .nil (aq_then ?_)
 refine aw_ret ?_
 obtain rfl := Option.some.inj h
 exact aq_finp hb0 rfl (.tmp rfl (by rfl) .nil) (by rfl) rfl ⟨rfl, rfl⟩

/- 63: beadroll/shard.Back -/
def F63_shard_Back_s0 (n : Nat) (a1 : GTree) (a2 : (List GTx)) (z0_0 : Int) (z0_1 : List GLine) : Option ((Int × List GLine) ⊕ ((List GLine) ⊕ (Int))) :=
  (if (decide (z0_0 < ((a2).length : Int))) = true then ((((rd a2 z0_0).bind fun (x14 : GTx) => ((F39_tx_From n x14).bind fun (y17 : (List Int)) => ((F64_acct_Get n a1 y17).bind fun (y19 : GAccount × Int) => (if (decide (x14.Nonce < y19.1.Nonce)) = true then some (.inl z0_1) else ((F93_shard_part_line_ec6 n y17 z0_1).bind fun (y22 : GLine) => ((F34_queue_Put n y22 x14).bind fun (y24 : GLine × (List GTx) × Int) => (if (y24.2.2 == (0 : Int)) = true then ((F95_shard_part_set_ddb n y24.1 z0_1).bind fun (y27 : List GLine) => some (.inl y27)) else (if (y24.2.2 == (9 : Int)) = true then some (.inr y24.2.2) else some (.inl z0_1)))))))))).bind (Sum.elim (fun (j30 : List GLine) => some (.inl ((IntKind.i64.wrap (z0_0 + (1 : Int))), j30))) (fun (j30 : Int) => some (.inr (.inr j30))))) else some (.inr (.inl z0_1)))
def F63_shard_Back (n : Nat) (a0 : GShard) (a1 : GTree) (a2 : (List GTx)) : Option (GShard × Int) :=
  ((((F52_shard_Check n a0).bind fun (y1 : Int) => (if (y1 != (0 : Int)) = true then some true else ((F67_acct_Check n a1).bind fun (y4 : Int) => some (y4 != (0 : Int)))))).bind fun (o6 : Bool) => (if o6 = true then some ((⟨[]⟩ : GShard), (8 : Int)) else ((F101_api_Tx_76e n a2).bind fun (y8 : Bool) => (if y8 = true then some ((⟨[]⟩ : GShard), (110 : Int)) else ((F61_shard_Twin n a0).bind fun (y11 : List GLine) => ((loopF (fun (z : Int × List GLine) => F63_shard_Back_s0 n a1 a2 z.1 z.2) n ((0 : Int), y11)).bind (Sum.elim (fun (j32 : List GLine) => some ((⟨j32⟩ : GShard), (0 : Int))) (fun (j32 : Int) => some ((⟨[]⟩ : GShard), j32)))))))))
theorem F63_shard_Back_ok {n : Nat} {a0 : GShard} {a1 : GTree} {a2 : (List GTx)} {r : GShard × Int} (h : F63_shard_Back n a0 a1 a2 = some r) :
    ACall Tryd.prog GS 63 [.d (eGShard a0), .d (eGTree a1), .d (eL24 a2)] [] (fun r' hp' => r' = .res [.d (eGShard r.1), .d (.val (.int .i64 r.2))] ∧ hp' = []) := by
 refine acall_of_body mixed Tryd.func63 rfl (by rfl) ?_
 intro C hro hgl hb0
 unfold F63_shard_Back at h
 refine aw_rs ?_
 refine .n (f_box 3 (by rfl) (by rfl)) rfl (.c rfl .nil) rfl ?_
 refine .n (f_box 4 (by rfl) (by rfl)) rfl (.c rfl .nil) rfl ?_
 refine .n (f_alloc 6 (by rfl) zrv74) rfl .nil rfl ?_
 refine .a rfl ?_
 refine .nil (aq_then ?_)
 refine aw_seq ?_
 refine aw_block ?_
 refine aw_seq ?_
 obtain ⟨o6, ho34, h⟩ := bind_some h
 refine aw_join (.normal) ⟨[(2, .d (eL24 a2)), (3, .ptr 3 0 []), (4, .ptr 4 0 []), (6, .ptr 6 0 []), (17, .d (.val (.bool o6)))], [(3, .av (.d (eGShard a0))), (4, .av (.d (eGTree a1))), (6, .av (.st [.d (.val (.slice none 0 0))]))], []⟩ ?_ ?_
 ·replace h := ho34
  refine aw_r ?_
  refine .l 3 0 [] (.d (eGShard a0)) (.d (eGShard a0)) ty74 ?_
  obtain ⟨y1, hy2, h⟩ := bind_some h
  refine .v (f_callP hgl (by rfl) en52 rfl (by rfl) (by rfl) (by rfl) (F52_shard_Check_ok hy2)) rfl (.c rfl .nil) .nil ?_
  refine .b rfl rfl rfl ?_
  refine .m rfl ?_
  rcases Bool.eq_false_or_eq_true (y1 != (0 : Int)) with hc3 | hc3
  ·replace h := ite_t hc3 h
   refine .off rfl rfl rfl hc3 rfl (by rfl) ?_
   refine .off rfl rfl rfl hc3 rfl (by rfl) ?_
   refine .off rfl rfl rfl hc3 rfl (by rfl) ?_
   refine .v (f_pick_true (by rfl) hc3) rfl (.c rfl (.c rfl .nil)) .nil ?_
   refine .a rfl ?_
   refine .nil ?_
   obtain rfl := Option.some.inj h
   refine aq_weak (s' := ⟨[(2, .d (eL24 a2)), (3, .ptr 3 0 []), (4, .ptr 4 0 []), (6, .ptr 6 0 []), (17, .d (.val (.bool true)))], [(3, .av (.d (eGShard a0))), (4, .av (.d (eGTree a1))), (6, .av (.st [.d (.val (.slice none 0 0))]))], []⟩) id hb0 (.keep rfl (.keep rfl (.keep rfl (.keep rfl (.keep rfl .nil))))) (.keep rfl (.keep rfl (.keep rfl .nil))) rfl (by rfl) ?_
   exact jq
  replace h := ite_f hc3 h
  refine .gv (f_load (n := 0) (o := 4) (off := 0) (p := []) (c := .d (eGTree a1)) (z := .d (eGTree a1)) (by rfl) rfl ty90 (by rfl)) rfl rfl rfl hc3 (.c rfl .nil) (.cons rfl .nil) ?_
  obtain ⟨y4, hy5, h⟩ := bind_some h
  refine .gv (f_callP hgl (by rfl) en67 rfl (by rfl) (by rfl) (by rfl) (F67_acct_Check_ok hy5)) rfl rfl rfl hc3 (.c rfl .nil) .nil ?_
  refine .gv (f_binI (by rfl) rfl (by rfl)) rfl rfl rfl hc3 (.c rfl (.c rfl .nil)) .nil ?_
  refine .v (f_pick_false (by rfl) hc3) rfl (.c rfl (.c rfl .nil)) .nil ?_
  refine .a rfl ?_
  refine .nil ?_
  obtain rfl := Option.some.inj h
  refine aq_weak (s' := ⟨[(2, .d (eL24 a2)), (3, .ptr 3 0 []), (4, .ptr 4 0 []), (6, .ptr 6 0 []), (17, .d (.val (.bool (y4 != (0 : Int)))))], [(3, .av (.d (eGShard a0))), (4, .av (.d (eGTree a1))), (6, .av (.st [.d (.val (.slice none 0 0))]))], []⟩) id hb0 (.keep rfl (.keep rfl (.keep rfl (.keep rfl (.keep rfl .nil))))) (.keep rfl (.keep rfl (.keep rfl .nil))) rfl (by rfl) ?_
  exact jq
 refine aq_then ?_
 refine aw_cond rfl (fun hc7 => ?_) (fun hc7 => ?_)
 ·replace h := ite_t hc7 h
  refine aw_rs ?_
  refine .v (f_build (xs := []) (z' := .st [.d (.val (.slice none 0 0))]) (by rfl) zrv74 ag74 rfl (by rfl) trivial (by rfl) (by rfl)) rfl .nil .nil ?_
  refine .s (f_store (n := 0) (o := 6) (off := 0) (p := []) (c := .st [.d (.val (.slice none 0 0))]) (old := .st [.d (.val (.slice none 0 0))]) (z := .st [.d (.val (.slice none 0 0))]) (c' := .st [.d (.val (.slice none 0 0))]) rfl rfl (by rfl) ty74 (by rfl)) rfl (.c rfl (.c rfl .nil)) (.cons rfl .nil) ?_
  refine .a rfl ?_
  refine .nil (aq_then ?_)
  refine aw_ret ?_
  refine aq_block_ret ?_
  refine aq_then_ret ?_
  obtain rfl := Option.some.inj h
  refine aq_freezeH [] [(6, .ptr 6 0 []), (7, .d (.val (.int .i64 (8 : Int))))] [(6, .av (.d (eGShard (⟨[]⟩ : GShard))))] .nil (.keep rfl (.keep rfl .nil)) (.cons rfl (by rfl) (.st (.cons .nil .nil)) .nil) ?_
  exact aq_finp hb0 rfl (.cell rfl rfl ty74 (by rfl) (.tmp rfl (by rfl) .nil)) (by rfl) rfl ⟨rfl, rfl⟩
 replace h := ite_f hc7 h
 refine aw_rs ?_
 refine .m rfl ?_
 obtain ⟨y8, hy9, h⟩ := bind_some h
 refine .v (f_callP hgl (by rfl) en101 rfl (by rfl) (by rfl) (by rfl) (F101_api_Tx_76e_ok hy9)) rfl (.c rfl (.c rfl .nil)) .nil ?_
 refine .a rfl ?_
 refine .nil (aq_then ?_)
 refine aw_cond rfl (fun hc10 => ?_) (fun hc10 => ?_)
 ·replace h := ite_t hc10 h
  refine aw_rs ?_
  refine .v (f_build (xs := []) (z' := .st [.d (.val (.slice none 0 0))]) (by rfl) zrv74 ag74 rfl (by rfl) trivial (by rfl) (by rfl)) rfl .nil .nil ?_
  refine .s (f_store (n := 0) (o := 6) (off := 0) (p := []) (c := .st [.d (.val (.slice none 0 0))]) (old := .st [.d (.val (.slice none 0 0))]) (z := .st [.d (.val (.slice none 0 0))]) (c' := .st [.d (.val (.slice none 0 0))]) rfl rfl (by rfl) ty74 (by rfl)) rfl (.c rfl (.c rfl .nil)) (.cons rfl .nil) ?_
  refine .a rfl ?_
  refine .nil (aq_then ?_)
  refine aw_ret ?_
  refine aq_block_ret ?_
  refine aq_then_ret ?_
  obtain rfl := Option.some.inj h
  refine aq_freezeH [] [(6, .ptr 6 0 []), (7, .d (.val (.int .i64 (110 : Int))))] [(6, .av (.d (eGShard (⟨[]⟩ : GShard))))] .nil (.keep rfl (.keep rfl .nil)) (.cons rfl (by rfl) (.st (.cons .nil .nil)) .nil) ?_
  exact aq_finp hb0 rfl (.cell rfl rfl ty74 (by rfl) (.tmp rfl (by rfl) .nil)) (by rfl) rfl ⟨rfl, rfl⟩
 replace h := ite_f hc10 h
 refine aw_skip ?_
 refine aq_block ?_
 refine aq_then ?_
 refine aw_rs ?_
 refine .l 3 0 [] (.d (eGShard a0)) (.d (eGShard a0)) ty74 ?_
 obtain ⟨y11, hy12, h⟩ := bind_some h
 refine .w (f_callG (xs := [.d (eGShard a0)]) (r := .st [.slc 1086 0 ((y11).length) 33]) (hw := [(1085, .av (.st [.slc 1086 0 ((y11).length) 33])), (1086, .av (.d (.arr 33 ((y11).length) ((y11).map eGLine))))]) (fun i => bif Nat.beq i 1062 then 1086 else (bif Nat.beq i 2 then 1085 else i)) [] hgl (by rfl) (cal_f en61) rfl (by rfl) (by rfl) (by rfl) (by rfl) (.cons (.same _) .nil) rfl rfl rfl rfl (F61_shard_Twin_ok hy12)) rfl (.c rfl .nil) .nil (.cons rfl (.cons rfl .nil)) ?_
 refine .v (f_build (xs := [(0, .st [.slc 1086 0 ((y11).length) 33])]) (z' := .st [.st [.slc 1086 0 ((y11).length) 33]]) (by rfl) zrv132 ag132 rfl (by rfl) ⟨_, _, _, rfl, pl132_0, rfl, rfl, trivial⟩ (by rfl) (by rfl)) rfl (.c rfl .nil) .nil ?_
 refine .n (f_box 34 (by rfl) (by rfl)) rfl (.c rfl .nil) rfl ?_
 refine .a rfl ?_
 refine .nil (aq_then ?_)
 refine aw_seq ?_
 refine aw_rs ?_
 refine .m rfl ?_
 refine .v (f_lenD (n := (a2).length) (by rfl) sl24 rfl (by simp)) rfl (.c rfl .nil) .nil ?_
 refine .m rfl ?_
 refine .nil (aq_then ?_)
 refine aw_block ?_
 refine aw_weak (s' := ⟨[(4, .ptr 4 0 []), (6, .ptr 6 0 []), (8, .ptr 34 0 []), (35, .d (eL24 a2)), (36, .d (.val (.int .i64 ((a2).length : Int)))), (37, .d (.val (.int .i64 (0 : Int))))], [(4, .av (.d (eGTree a1))), (6, .av (.st [.d (.val (.slice none 0 0))])), (34, .av (.st [.st [.slc 1086 0 ((y11).length) 33]])), (1086, .av (.d (.arr 33 ((y11).length) ((y11).map eGLine))))], []⟩) id hb0 (.keep rfl (.keep rfl (.keep rfl (.keep rfl (.keep rfl (.keep rfl .nil)))))) (.keep rfl (.keep rfl (.keep rfl (.keep rfl .nil)))) rfl (by rfl) ?_
 obtain ⟨o32, ho33, h⟩ := bind_some h
 refine aw_loopX (σ := Int × List GLine) (fun z => ⟨[(4, .ptr 4 0 []), (6, .ptr 6 0 []), (8, .ptr 34 0 []), (35, .d (eL24 a2)), (36, .d (.val (.int .i64 ((a2).length : Int)))), (37, .d (.val (.int .i64 z.1)))], [(4, .av (.d (eGTree a1))), (6, .av (.st [.d (.val (.slice none 0 0))])), (34, .av (.st [.st [.slc 1086 0 ((z.2).length) 33]])), (1086, .av (.d (.arr 33 ((z.2).length) ((z.2).map eGLine))))], []⟩) (Sum.elim (fun _ => .exit 1) (fun _ => .ret)) (Sum.elim (fun j32 => ⟨[(6, .ptr 6 0 []), (8, .ptr 34 0 [])], [(6, .av (.st [.d (.val (.slice none 0 0))])), (34, .av (.st [.st [.slc 1086 0 ((j32).length) 33]])), (1086, .av (.d (.arr 33 ((j32).length) ((j32).map eGLine))))], []⟩) (fun j32 => ⟨[(6, .ptr 6 0 []), (7, .d (.val (.int .i64 j32)))], [(6, .av (.st [.d (.val (.slice none 0 0))]))], []⟩)) ho33 (by intro b; rcases b with _ | _ <;> rfl) ?_ ?_
 ·clear h ho33
  rintro ⟨z0_0, z0_1⟩ o h
  change F63_shard_Back_s0 n a1 a2 z0_0 z0_1 = some o at h
  unfold F63_shard_Back_s0 at h
  show AW _ _ _ ⟨[(4, .ptr 4 0 []), (6, .ptr 6 0 []), (8, .ptr 34 0 []), (35, .d (eL24 a2)), (36, .d (.val (.int .i64 ((a2).length : Int)))), (37, .d (.val (.int .i64 z0_0)))], [(4, .av (.d (eGTree a1))), (6, .av (.st [.d (.val (.slice none 0 0))])), (34, .av (.st [.st [.slc 1086 0 ((z0_1).length) 33]])), (1086, .av (.d (.arr 33 ((z0_1).length) ((z0_1).map eGLine))))], []⟩
  refine aw_rs ?_
  refine .b rfl rfl rfl ?_
  refine .nil (aq_then ?_)
  refine aw_seq ?_
  refine aw_cond rfl (fun hc13 => ?_) (fun hc13 => ?_)
  ·replace h := ite_t hc13 h
   refine aw_skip ?_
   refine aq_then ?_
   refine aw_seq ?_
   obtain ⟨o30, ho31, h⟩ := bind_some h
   refine aw_join ((Sum.elim (fun _ => .normal) (fun _ => .ret)) o30) ((Sum.elim (fun j30 => ⟨[(4, .ptr 4 0 []), (6, .ptr 6 0 []), (8, .ptr 34 0 []), (35, .d (eL24 a2)), (36, .d (.val (.int .i64 ((a2).length : Int)))), (37, .d (.val (.int .i64 z0_0)))], [(4, .av (.d (eGTree a1))), (6, .av (.st [.d (.val (.slice none 0 0))])), (34, .av (.st [.st [.slc 1086 0 ((j30).length) 33]])), (1086, .av (.d (.arr 33 ((j30).length) ((j30).map eGLine))))], []⟩) (fun j30 => ⟨[(6, .ptr 6 0 []), (7, .d (.val (.int .i64 j30)))], [(6, .av (.st [.d (.val (.slice none 0 0))]))], []⟩)) o30) ?_ ?_
   ·replace h := ho31
    refine aw_block ?_
    refine aw_rs ?_
    obtain ⟨x14, hx15, h⟩ := bind_some h
    obtain ⟨hx16, hx15⟩ := rd_some hx15
    refine .v (f_indexS (by rfl) sl24 hx16 (rd_map _ hx15)) rfl (.c rfl (.c rfl .nil)) .nil ?_
    refine .v (f_loadR (z := (eGTx x14)) (by rfl) ty36) rfl (.c rfl .nil) .nil ?_
    refine .n (f_alloc 10 (by rfl) zr36) rfl .nil rfl ?_
    refine .s (f_store (n := 0) (o := 10) (off := 0) (p := []) (c := .d (eGTx (⟨(List.replicate 32 (0 : Int)), (List.replicate 32 (0 : Int)), (0 : Int), (0 : Int), (0 : Int), (List.replicate 32 (0 : Int))⟩ : GTx))) (old := .d (eGTx (⟨(List.replicate 32 (0 : Int)), (List.replicate 32 (0 : Int)), (0 : Int), (0 : Int), (0 : Int), (List.replicate 32 (0 : Int))⟩ : GTx))) (z := .d (eGTx x14)) (c' := .d (eGTx x14)) rfl rfl (by rfl) ty36 (by rfl)) rfl (.c rfl (.c rfl .nil)) (.cons rfl .nil) ?_
    refine .z ?_
    refine .l 10 0 [] (.d (eGTx x14)) (.d (eGTx x14)) ty36 ?_
    obtain ⟨y17, hy18, h⟩ := bind_some h
    refine .v (f_callP hgl (by rfl) en39 rfl (by rfl) (by rfl) (by rfl) (F39_tx_From_ok hy18)) rfl (.c rfl .nil) .nil ?_
    refine .n (f_alloc 11 (by rfl) zr23) rfl .nil rfl ?_
    refine .s (f_store (n := 0) (o := 11) (off := 0) (p := []) (c := .d (eA22 (List.replicate 32 (0 : Int)))) (old := .d (eA22 (List.replicate 32 (0 : Int)))) (z := .d (eA22 y17)) (c' := .d (eA22 y17)) rfl rfl (by rfl) ty23 (by rfl)) rfl (.c rfl (.c rfl .nil)) (.cons rfl .nil) ?_
    refine .nil (aq_then ?_)
    refine aw_seq ?_
    refine aw_rs ?_
    refine .l 4 0 [] (.d (eGTree a1)) (.d (eGTree a1)) ty90 ?_
    refine .l 11 0 [] (.d (eA22 y17)) (.d (eA22 y17)) ty23 ?_
    obtain ⟨y19, hy20, h⟩ := bind_some h
    refine .v (f_callP hgl (by rfl) en64 rfl (by rfl) (by rfl) (by rfl) (F64_acct_Get_ok hy20)) rfl (.c rfl (.c rfl .nil)) .nil ?_
    refine .m rfl ?_
    refine .v (f_extract (by rfl) rfl) rfl (.c rfl .nil) .nil ?_
    refine .v (f_extract (by rfl) rfl) rfl (.c rfl .nil) .nil ?_
    refine .n (f_alloc 12 (by rfl) zr95) rfl .nil rfl ?_
    refine .s (f_store (n := 0) (o := 12) (off := 0) (p := []) (c := .d (eGAccount (⟨(0 : Int), (0 : Int)⟩ : GAccount))) (old := .d (eGAccount (⟨(0 : Int), (0 : Int)⟩ : GAccount))) (z := .d (eGAccount y19.1)) (c' := .d (eGAccount y19.1)) rfl rfl (by rfl) ty95 (by rfl)) rfl (.c rfl (.c rfl .nil)) (.cons rfl .nil) ?_
    refine .a rfl ?_
    refine .z ?_
    refine .v (f_fieldAddr (n := 64) (by rfl) fl36_2 (by decide)) rfl (.c rfl .nil) .nil ?_
    refine .l 10 (0 + 64) [2] (.d (eGTx x14)) (.d (.val (.int .u64 x14.Nonce))) ty27 ?_
    refine .v (f_fieldAddr (n := 0) (by rfl) fl95_0 (by decide)) rfl (.c rfl .nil) .nil ?_
    refine .l 12 (0 + 0) [0] (.d (eGAccount y19.1)) (.d (.val (.int .u64 y19.1.Nonce))) ty27 ?_
    refine .b rfl rfl rfl ?_
    refine .nil (aq_then ?_)
    refine aw_cond rfl (fun hc21 => ?_) (fun hc21 => ?_)
    ·replace h := ite_t hc21 h
     refine aw_exit ?_
     refine aq_then_exit ?_
     refine aq_block_exit ?_
     obtain rfl := Option.some.inj h
     refine aq_weak (s' := ⟨[(4, .ptr 4 0 []), (6, .ptr 6 0 []), (8, .ptr 34 0 []), (35, .d (eL24 a2)), (36, .d (.val (.int .i64 ((a2).length : Int)))), (37, .d (.val (.int .i64 z0_0)))], [(4, .av (.d (eGTree a1))), (6, .av (.st [.d (.val (.slice none 0 0))])), (34, .av (.st [.st [.slc 1086 0 ((z0_1).length) 33]])), (1086, .av (.d (.arr 33 ((z0_1).length) ((z0_1).map eGLine))))], []⟩) id hb0 (.keep rfl (.keep rfl (.keep rfl (.keep rfl (.keep rfl (.keep rfl .nil)))))) (.keep rfl (.keep rfl (.keep rfl (.keep rfl .nil)))) rfl (by rfl) ?_
     exact jq
    replace h := ite_f hc21 h
    refine aw_skip ?_
    refine aq_then ?_
    refine aw_rds ?_
    refine .v (f_move (by rfl)) rfl (.c rfl .nil) .nil ?_
    refine .v (f_load (n := 0) (o := 11) (off := 0) (p := []) (c := .d (eA22 y17)) (z := .d (eA22 y17)) (by rfl) rfl ty23 (by rfl)) rfl (.c rfl .nil) (.cons rfl .nil) ?_
    obtain ⟨y22, hy23, h⟩ := bind_some h
    refine .w (f_callG (xs := [.ptr 34 0 [], .d (eA22 y17)]) (r := .d (eGLine y22)) (hw := [(1089, .av (.d (eGLine y22))), (34, .av (.st [.st [.slc 1086 0 ((z0_1).length) 33]])), (1086, .av (.d (.arr 33 ((z0_1).length) ((z0_1).map eGLine))))]) (fun i => bif Nat.beq i 4 then 1089 else (bif Nat.beq i 1 then 1086 else (bif Nat.beq i 0 then 34 else i))) [] hgl (by rfl) (cal_f en93) rfl (by rfl) (by rfl) (by rfl) (by rfl) (.cons (.same _) (.cons (.same _) .nil)) rfl rfl rfl rfl (F93_shard_part_line_ec6_ok hy23)) rfl (.c rfl (.c rfl .nil)) (.cons rfl (.cons rfl .nil)) (.cons rfl .nil) ?_
    refine .v (f_load (n := 0) (o := 10) (off := 0) (p := []) (c := .d (eGTx x14)) (z := .d (eGTx x14)) (by rfl) rfl ty36 (by rfl)) rfl (.c rfl .nil) (.cons rfl .nil) ?_
    obtain ⟨y24, hy25, h⟩ := bind_some h
    refine .v (f_callP hgl (by rfl) en34 rfl (by rfl) (by rfl) (by rfl) (F34_queue_Put_ok hy25)) rfl (.c rfl (.c rfl .nil)) .nil ?_
    refine .v (f_move (by rfl)) rfl (.c rfl .nil) .nil ?_
    refine .v (f_extract (by rfl) rfl) rfl (.c rfl .nil) .nil ?_
    refine .v (f_extract (by rfl) rfl) rfl (.c rfl .nil) .nil ?_
    refine .v (f_extract (by rfl) rfl) rfl (.c rfl .nil) .nil ?_
    refine .n (f_alloc 14 (by rfl) zrv26) rfl .nil rfl ?_
    refine .s (f_store (n := 0) (o := 14) (off := 0) (p := []) (c := .st [.d (eA22 (List.replicate 32 (0 : Int))), .d (.val (.slice none 0 0))]) (old := .st [.d (eA22 (List.replicate 32 (0 : Int))), .d (.val (.slice none 0 0))]) (z := .d (eGLine y24.1)) (c' := .d (eGLine y24.1)) rfl rfl (by rfl) ty26 (by rfl)) rfl (.c rfl (.c rfl .nil)) (.cons rfl .nil) ?_
    refine .v (f_assign (by rfl)) rfl (.c rfl .nil) .nil ?_
    refine .v (f_assign (by rfl)) rfl (.c rfl .nil) .nil ?_
    refine .nil (by kernel_rfl) ?_
    refine aw_rs ?_
    refine .m rfl ?_
    refine .nil (aq_then ?_)
    refine aw_block ?_
    refine aw_rs ?_
    refine .b rfl rfl rfl ?_
    refine .a rfl ?_
    refine .nil (aq_then ?_)
    refine aw_cond rfl (fun hc26 => ?_) (fun hc26 => ?_)
    ·replace h := ite_t hc26 h
     refine aw_r ?_
     refine .m rfl ?_
     refine .l 14 0 [] (.d (eGLine y24.1)) (.d (eGLine y24.1)) ty26 ?_
     obtain ⟨y27, hy28, h⟩ := bind_some h
     refine .w (f_callG (xs := [.ptr 34 0 [], .d (eGLine y24.1)]) (r := .res []) (hw := [(34, .av (.st [.st [.slc 1090 0 ((y27).length) 33]])), (1086, .dead), (1090, .av (.d (.arr 33 ((y27).length) ((y27).map eGLine))))]) (fun i => bif Nat.beq i 1074 then 1090 else (bif Nat.beq i 1 then 1086 else (bif Nat.beq i 0 then 34 else i))) [] hgl (by rfl) (cal_f en95) rfl (by rfl) (by rfl) (by rfl) (by rfl) (.cons (.same _) (.cons (.same _) .nil)) rfl rfl rfl rfl (F95_shard_part_set_ddb_ok hy28)) rfl (.c rfl (.c rfl .nil)) (.cons rfl (.cons rfl .nil)) (.cons rfl .nil) ?_
     refine .nil ?_
     refine aq_block ?_
     refine aq_block ?_
     obtain rfl := Option.some.inj h
     refine aq_weak (s' := ⟨[(4, .ptr 4 0 []), (6, .ptr 6 0 []), (8, .ptr 34 0 []), (35, .d (eL24 a2)), (36, .d (.val (.int .i64 ((a2).length : Int)))), (37, .d (.val (.int .i64 z0_0)))], [(4, .av (.d (eGTree a1))), (6, .av (.st [.d (.val (.slice none 0 0))])), (34, .av (.st [.st [.slc 1086 0 ((y27).length) 33]])), (1086, .av (.d (.arr 33 ((y27).length) ((y27).map eGLine))))], []⟩) (fun i => (bif Nat.beq i 1086 then 1090 else i)) hb0 (.cons rfl (.cons rfl (.cons rfl (.cons rfl (.cons rfl (.cons rfl .nil)))))) (.cons rfl (.cons rfl (.cons rfl (.cons rfl .nil)))) rfl (by rfl) ?_
     exact jq
    replace h := ite_f hc26 h
    refine aw_rs ?_
    refine .b rfl rfl rfl ?_
    refine .a rfl ?_
    refine .nil (aq_then ?_)
    refine aw_cond rfl (fun hc29 => ?_) (fun hc29 => ?_)
    ·replace h := ite_t hc29 h
     refine aw_rs ?_
     refine .v (f_build (xs := []) (z' := .st [.d (.val (.slice none 0 0))]) (by rfl) zrv74 ag74 rfl (by rfl) trivial (by rfl) (by rfl)) rfl .nil .nil ?_
     refine .m rfl ?_
     refine .s (f_store (n := 0) (o := 6) (off := 0) (p := []) (c := .st [.d (.val (.slice none 0 0))]) (old := .st [.d (.val (.slice none 0 0))]) (z := .st [.d (.val (.slice none 0 0))]) (c' := .st [.d (.val (.slice none 0 0))]) rfl rfl (by rfl) ty74 (by rfl)) rfl (.c rfl (.c rfl .nil)) (.cons rfl .nil) ?_
     refine .a rfl ?_
     refine .nil (aq_then ?_)
     refine aw_ret ?_
     refine aq_block_ret ?_
     refine aq_block_ret ?_
     obtain rfl := Option.some.inj h
     refine aq_weak (s' := ⟨[(6, .ptr 6 0 []), (7, .d (.val (.int .i64 y24.2.2)))], [(6, .av (.st [.d (.val (.slice none 0 0))]))], []⟩) id hb0 (.keep rfl (.keep rfl .nil)) (.keep rfl .nil) rfl (by rfl) ?_
     exact jq
    replace h := ite_f hc29 h
    refine aw_skip ?_
    refine aq_block ?_
    refine aq_block ?_
    obtain rfl := Option.some.inj h
    refine aq_weak (s' := ⟨[(4, .ptr 4 0 []), (6, .ptr 6 0 []), (8, .ptr 34 0 []), (35, .d (eL24 a2)), (36, .d (.val (.int .i64 ((a2).length : Int)))), (37, .d (.val (.int .i64 z0_0)))], [(4, .av (.d (eGTree a1))), (6, .av (.st [.d (.val (.slice none 0 0))])), (34, .av (.st [.st [.slc 1086 0 ((z0_1).length) 33]])), (1086, .av (.d (.arr 33 ((z0_1).length) ((z0_1).map eGLine))))], []⟩) id hb0 (.keep rfl (.keep rfl (.keep rfl (.keep rfl (.keep rfl (.keep rfl .nil)))))) (.keep rfl (.keep rfl (.keep rfl (.keep rfl .nil)))) rfl (by rfl) ?_
    exact jq
   rcases o30 with j30 | j30
   ·replace h := elim_l h
    refine aq_then ?_
    refine aw_r ?_
    refine .b rfl rfl rfl ?_
    refine .m rfl ?_
    refine .nil ?_
    obtain rfl := Option.some.inj h
    refine aq_weak (s' := ⟨[(4, .ptr 4 0 []), (6, .ptr 6 0 []), (8, .ptr 34 0 []), (35, .d (eL24 a2)), (36, .d (.val (.int .i64 ((a2).length : Int)))), (37, .d (.val (.int .i64 (IntKind.i64.wrap (z0_0 + (1 : Int))))))], [(4, .av (.d (eGTree a1))), (6, .av (.st [.d (.val (.slice none 0 0))])), (34, .av (.st [.st [.slc 1086 0 ((j30).length) 33]])), (1086, .av (.d (.arr 33 ((j30).length) ((j30).map eGLine))))], []⟩) id hb0 (.keep rfl (.keep rfl (.keep rfl (.keep rfl (.keep rfl (.keep rfl .nil)))))) (.keep rfl (.keep rfl (.keep rfl (.keep rfl .nil)))) rfl (by rfl) ?_
    exact jq
   replace h := elim_r h
   refine aq_then_ret ?_
   obtain rfl := Option.some.inj h
   refine aq_weak (s' := ⟨[(6, .ptr 6 0 []), (7, .d (.val (.int .i64 j30)))], [(6, .av (.st [.d (.val (.slice none 0 0))]))], []⟩) id hb0 (.keep rfl (.keep rfl .nil)) (.keep rfl .nil) rfl (by rfl) ?_
   exact jq
  replace h := ite_f hc13 h
  refine aw_exit ?_
  refine aq_then_exit ?_
  obtain rfl := Option.some.inj h
  refine aq_weak (s' := ⟨[(6, .ptr 6 0 []), (8, .ptr 34 0 [])], [(6, .av (.st [.d (.val (.slice none 0 0))])), (34, .av (.st [.st [.slc 1086 0 ((z0_1).length) 33]])), (1086, .av (.d (.arr 33 ((z0_1).length) ((z0_1).map eGLine))))], []⟩) id hb0 (.keep rfl (.keep rfl .nil)) (.keep rfl (.keep rfl (.keep rfl .nil))) rfl (by rfl) ?_
  exact jq
 rcases o32 with j32 | j32
 ·replace h := elim_l h
  refine aq_block_exit ?_
  refine aq_then ?_
  refine aw_rs ?_
  refine .m rfl ?_
  refine .v (f_nilCheck (by rfl)) rfl (.c rfl .nil) .nil ?_
  refine .v (f_fieldAddr (n := 0) (by rfl) fl132_0 (by decide)) rfl (.c rfl .nil) .nil ?_
  refine .l 34 (0 + 0) [0] (.st [.st [.slc 1086 0 ((j32).length) 33]]) (.st [.slc 1086 0 ((j32).length) 33]) ty74 ?_
  refine .s (f_store (n := 0) (o := 6) (off := 0) (p := []) (c := .st [.d (.val (.slice none 0 0))]) (old := .st [.d (.val (.slice none 0 0))]) (z := .st [.slc 1086 0 ((j32).length) 33]) (c' := .st [.slc 1086 0 ((j32).length) 33]) rfl rfl (by rfl) ty74 (by rfl)) rfl (.c rfl (.c rfl .nil)) (.cons rfl .nil) ?_
  refine .a rfl ?_
  refine .nil (aq_then ?_)
  refine aw_ret ?_
  obtain rfl := Option.some.inj h
  refine aq_freezeH [(1086, (.arr 33 ((j32).length) ((j32).map eGLine)))] [(6, .ptr 6 0 []), (7, .d (.val (.int .i64 (0 : Int))))] [(6, .av (.d (eGShard (⟨j32⟩ : GShard)))), (34, .av (.d (eGshard_part (⟨(⟨j32⟩ : GShard)⟩ : Gshard_part))))] (.cons rfl .nil) (.keep rfl (.keep rfl .nil)) (.cons rfl (by rfl) (.st (.cons (.whole (.head _)) .nil)) (.cons rfl (by rfl) (.st (.cons (.st (.cons (.whole (.head _)) .nil)) .nil)) .nil)) ?_
  exact aq_finp hb0 rfl (.cell rfl rfl ty74 (by rfl) (.tmp rfl (by rfl) .nil)) (by rfl) rfl ⟨rfl, rfl⟩
 replace h := elim_r h
 refine aq_block_ret ?_
 refine aq_then_ret ?_
 obtain rfl := Option.some.inj h
 refine aq_freezeH [] [(6, .ptr 6 0 []), (7, .d (.val (.int .i64 j32)))] [(6, .av (.d (eGShard (⟨[]⟩ : GShard))))] .nil (.keep rfl (.keep rfl .nil)) (.cons rfl (by rfl) (.st (.cons .nil .nil)) .nil) ?_
 exact aq_finp hb0 rfl (.cell rfl rfl ty74 (by rfl) (.tmp rfl (by rfl) .nil)) (by rfl) rfl ⟨rfl, rfl⟩

/- 48: beadroll/beadrolllaw20.alive -/
def F48_beadrolllaw20_alive (n : Nat)  : Option (Bool) :=
  ((F70_beadrolllaw20_two n ).bind fun (y1 : GShard) => ((F71_beadrolllaw20_one n (2 : Int) (0 : Int) (5 : Int)).bind fun (y3 : GTx) => ((F50_shard_Submit n y1 (2 : Int) (0 : Int) y3).bind fun (y5 : GShard × (List GTx) × Int) => ((F70_beadrolllaw20_two n ).bind fun (y7 : GShard) => ((F71_beadrolllaw20_one n (2 : Int) (0 : Int) (6 : Int)).bind fun (y9 : GTx) => ((F50_shard_Submit n y7 (2 : Int) (0 : Int) y9).bind fun (y11 : GShard × (List GTx) × Int) => ((((F70_beadrolllaw20_two n ).bind fun (y13 : GShard) => ((F53_shard_Count n y13).bind fun (y15 : Int) => (if (y15 == (2 : Int)) = true then (if (y5.2.2 == (9 : Int)) = true then (if (y11.2.2 == (0 : Int)) = true then ((F53_shard_Count n y11.1).bind fun (y20 : Int) => (if (y20 == (2 : Int)) = true then ((F71_beadrolllaw20_one n (1 : Int) (1 : Int) (5 : Int)).bind fun (y23 : GTx) => ((F20_beadrollref19_SameTxs n y11.2.1 ([y23] : List GTx)).bind fun (y25 : Bool) => some y25)) else some false)) else some false) else some false) else some false)))).bind fun (o27 : Bool) => some o27)))))))
theorem F48_beadrolllaw20_alive_ok {n : Nat}  {r : Bool} (h : F48_beadrolllaw20_alive n  = some r) :
    ACall Tryd.prog GS 48 [] [] (fun r' hp' => r' = .d (.val (.bool r)) ∧ hp' = []) := by
 refine acall_of_body mixed Tryd.func48 rfl (by rfl) ?_
 intro C hro hgl hb0
 unfold F48_beadrolllaw20_alive at h
 refine aw_rs ?_
 refine .a rfl ?_
 refine .z ?_
 obtain ⟨y1, hy2, h⟩ := bind_some h
 refine .v (f_callP hgl (by rfl) en70 rfl (by rfl) (by rfl) (by rfl) (F70_beadrolllaw20_two_ok hy2)) rfl .nil .nil ?_
 obtain ⟨y3, hy4, h⟩ := bind_some h
 refine .v (f_callP hgl (by rfl) en71 rfl (by rfl) (by rfl) (by rfl) (F71_beadrolllaw20_one_ok hy4)) rfl (.c rfl (.c rfl (.c rfl .nil))) .nil ?_
 obtain ⟨y5, hy6, h⟩ := bind_some h
 refine .v (f_callP hgl (by rfl) en50 rfl (by rfl) (by rfl) (by rfl) (F50_shard_Submit_ok hy6)) rfl (.c rfl (.c rfl (.c rfl (.c rfl .nil)))) .nil ?_
 refine .m rfl ?_
 refine .v (f_extract (by rfl) rfl) rfl (.c rfl .nil) .nil ?_
 refine .v (f_extract (by rfl) rfl) rfl (.c rfl .nil) .nil ?_
 refine .v (f_extract (by rfl) rfl) rfl (.c rfl .nil) .nil ?_
 refine .n (f_alloc 1 (by rfl) zrv74) rfl .nil rfl ?_
 refine .s (f_store (n := 0) (o := 1) (off := 0) (p := []) (c := .st [.d (.val (.slice none 0 0))]) (old := .st [.d (.val (.slice none 0 0))]) (z := .d (eGShard y5.1)) (c' := .d (eGShard y5.1)) rfl rfl (by rfl) ty74 (by rfl)) rfl (.c rfl (.c rfl .nil)) (.cons rfl .nil) ?_
 refine .a rfl ?_
 refine .a rfl ?_
 refine .z ?_
 obtain ⟨y7, hy8, h⟩ := bind_some h
 refine .v (f_callP hgl (by rfl) en70 rfl (by rfl) (by rfl) (by rfl) (F70_beadrolllaw20_two_ok hy8)) rfl .nil .nil ?_
 obtain ⟨y9, hy10, h⟩ := bind_some h
 refine .v (f_callP hgl (by rfl) en71 rfl (by rfl) (by rfl) (by rfl) (F71_beadrolllaw20_one_ok hy10)) rfl (.c rfl (.c rfl (.c rfl .nil))) .nil ?_
 obtain ⟨y11, hy12, h⟩ := bind_some h
 refine .v (f_callP hgl (by rfl) en50 rfl (by rfl) (by rfl) (by rfl) (F50_shard_Submit_ok hy12)) rfl (.c rfl (.c rfl (.c rfl (.c rfl .nil)))) .nil ?_
 refine .m rfl ?_
 refine .v (f_extract (by rfl) rfl) rfl (.c rfl .nil) .nil ?_
 refine .v (f_extract (by rfl) rfl) rfl (.c rfl .nil) .nil ?_
 refine .v (f_extract (by rfl) rfl) rfl (.c rfl .nil) .nil ?_
 refine .n (f_alloc 4 (by rfl) zrv74) rfl .nil rfl ?_
 refine .s (f_store (n := 0) (o := 4) (off := 0) (p := []) (c := .st [.d (.val (.slice none 0 0))]) (old := .st [.d (.val (.slice none 0 0))]) (z := .d (eGShard y11.1)) (c' := .d (eGShard y11.1)) rfl rfl (by rfl) ty74 (by rfl)) rfl (.c rfl (.c rfl .nil)) (.cons rfl .nil) ?_
 refine .a rfl ?_
 refine .a rfl ?_
 refine .nil (aq_then ?_)
 refine aw_seq ?_
 obtain ⟨o27, ho28, h⟩ := bind_some h
 refine aw_join (.normal) ⟨[(0, .d (.val (.bool o27)))], [], []⟩ ?_ ?_
 ·replace h := ho28
  refine aw_r ?_
  obtain ⟨y13, hy14, h⟩ := bind_some h
  refine .v (f_callP hgl (by rfl) en70 rfl (by rfl) (by rfl) (by rfl) (F70_beadrolllaw20_two_ok hy14)) rfl .nil .nil ?_
  obtain ⟨y15, hy16, h⟩ := bind_some h
  refine .v (f_callP hgl (by rfl) en53 rfl (by rfl) (by rfl) (by rfl) (F53_shard_Count_ok hy16)) rfl (.c rfl .nil) .nil ?_
  refine .b rfl rfl rfl ?_
  refine .m rfl ?_
  rcases Bool.eq_false_or_eq_true (y15 == (2 : Int)) with hc17 | hc17
  ·replace h := ite_t hc17 h
   refine .gv (f_move (by rfl)) rfl rfl rfl hc17 (.c rfl .nil) .nil ?_
   refine .gv (f_binI (by rfl) rfl (by rfl)) rfl rfl rfl hc17 (.c rfl (.c rfl .nil)) .nil ?_
   refine .v (f_pick_true (by rfl) hc17) rfl (.c rfl (.c rfl .nil)) .nil ?_
   refine .m rfl ?_
   rcases Bool.eq_false_or_eq_true (y5.2.2 == (9 : Int)) with hc18 | hc18
   ·replace h := ite_t hc18 h
    refine .gv (f_move (by rfl)) rfl rfl rfl hc18 (.c rfl .nil) .nil ?_
    refine .gv (f_binI (by rfl) rfl (by rfl)) rfl rfl rfl hc18 (.c rfl (.c rfl .nil)) .nil ?_
    refine .v (f_pick_true (by rfl) hc18) rfl (.c rfl (.c rfl .nil)) .nil ?_
    refine .m rfl ?_
    rcases Bool.eq_false_or_eq_true (y11.2.2 == (0 : Int)) with hc19 | hc19
    ·replace h := ite_t hc19 h
     refine .gv (f_load (n := 0) (o := 4) (off := 0) (p := []) (c := .d (eGShard y11.1)) (z := .d (eGShard y11.1)) (by rfl) rfl ty74 (by rfl)) rfl rfl rfl hc19 (.c rfl .nil) (.cons rfl .nil) ?_
     obtain ⟨y20, hy21, h⟩ := bind_some h
     refine .gv (f_callP hgl (by rfl) en53 rfl (by rfl) (by rfl) (by rfl) (F53_shard_Count_ok hy21)) rfl rfl rfl hc19 (.c rfl .nil) .nil ?_
     refine .gv (f_binI (by rfl) rfl (by rfl)) rfl rfl rfl hc19 (.c rfl (.c rfl .nil)) .nil ?_
     refine .v (f_pick_true (by rfl) hc19) rfl (.c rfl (.c rfl .nil)) .nil ?_
     refine .m rfl ?_
     rcases Bool.eq_false_or_eq_true (y20 == (2 : Int)) with hc22 | hc22
     ·replace h := ite_t hc22 h
      refine .gv (f_move (by rfl)) rfl rfl rfl hc22 (.c rfl .nil) .nil ?_
      obtain ⟨y23, hy24, h⟩ := bind_some h
      refine .gv (f_callP hgl (by rfl) en71 rfl (by rfl) (by rfl) (by rfl) (F71_beadrolllaw20_one_ok hy24)) rfl rfl rfl hc22 (.c rfl (.c rfl (.c rfl .nil))) .nil ?_
      refine .gw (f_buildS (xs := [(0, .d (eGTx y23))]) (z := (.st [(eA22 (List.replicate 32 (0 : Int))), (eA22 (List.replicate 32 (0 : Int))), (.val (.int .u64 (0 : Int))), (.val (.int .u64 (0 : Int))), (.val (.int .u64 (0 : Int))), (eA22 (List.replicate 32 (0 : Int)))])) (zs := (([y23] : List GTx)).map eGTx) 1091 (by rfl) el24 zel24 (by rfl) (by decide) (by decide) rfl (by rfl) ⟨_, _, _, rfl, pl24_0, rfl, rfl, trivial⟩ (by rfl)) rfl rfl rfl hc22 (.c rfl .nil) .nil (.cons rfl .nil) ?_
      obtain ⟨y25, hy26, h⟩ := bind_some h
      refine .gw (f_callH0 (xs := [.d (eL24 y11.2.1), .slc 1091 0 ((([y23] : List GTx)).length) 99]) (r := .d (.val (.bool y25))) (hr := []) (fun i => i) [(1091, (.arr 99 ((([y23] : List GTx)).length) ((([y23] : List GTx)).map eGTx)))] hgl (by rfl) (cal_f en20) rfl (by rfl) (by rfl) (by rfl) (by rfl) (by rfl) (.cons (.same _) (.cons (.whole (.head _)) .nil)) rfl rfl (flat_val) trivial (F20_beadrollref19_SameTxs_ok hy26)) rfl rfl rfl hc22 (.c rfl (.c rfl .nil)) (.cons rfl .nil) .nil ?_
      refine .v (f_pick_true (by rfl) hc22) rfl (.c rfl (.c rfl .nil)) .nil ?_
      refine .a rfl ?_
      refine .nil ?_
      obtain rfl := Option.some.inj h
      refine aq_weak (s' := ⟨[(0, .d (.val (.bool y25)))], [], []⟩) id hb0 (.keep rfl .nil) .nil rfl (by rfl) ?_
      exact jq
     replace h := ite_f hc22 h
     refine .off rfl rfl rfl hc22 rfl (by rfl) ?_
     refine .off rfl rfl rfl hc22 rfl (by rfl) ?_
     refine .off rfl rfl rfl hc22 rfl (by rfl) ?_
     refine .off rfl rfl rfl hc22 rfl (by rfl) ?_
     refine .v (f_pick_false (by rfl) hc22) rfl (.c rfl (.c rfl .nil)) .nil ?_
     refine .a rfl ?_
     refine .nil ?_
     obtain rfl := Option.some.inj h
     refine aq_weak (s' := ⟨[(0, .d (.val (.bool false)))], [], []⟩) id hb0 (.keep rfl .nil) .nil rfl (by rfl) ?_
     exact jq
    replace h := ite_f hc19 h
    refine .off rfl rfl rfl hc19 rfl (by rfl) ?_
    refine .off rfl rfl rfl hc19 rfl (by rfl) ?_
    refine .off rfl rfl rfl hc19 rfl (by rfl) ?_
    refine .v (f_pick_false (by rfl) hc19) rfl (.c rfl (.c rfl .nil)) .nil ?_
    refine .m rfl ?_
    refine .off rfl rfl rfl rfl rfl (by rfl) ?_
    refine .off rfl rfl rfl rfl rfl (by rfl) ?_
    refine .off rfl rfl rfl rfl rfl (by rfl) ?_
    refine .off rfl rfl rfl rfl rfl (by rfl) ?_
    refine .v (f_pick_false (by rfl) rfl) rfl (.c rfl (.c rfl .nil)) .nil ?_
    refine .a rfl ?_
    refine .nil ?_
    obtain rfl := Option.some.inj h
    refine aq_weak (s' := ⟨[(0, .d (.val (.bool false)))], [], []⟩) id hb0 (.keep rfl .nil) .nil rfl (by rfl) ?_
    exact jq
   replace h := ite_f hc18 h
   refine .off rfl rfl rfl hc18 rfl (by rfl) ?_
   refine .off rfl rfl rfl hc18 rfl (by rfl) ?_
   refine .v (f_pick_false (by rfl) hc18) rfl (.c rfl (.c rfl .nil)) .nil ?_
   refine .m rfl ?_
   refine .off rfl rfl rfl rfl rfl (by rfl) ?_
   refine .off rfl rfl rfl rfl rfl (by rfl) ?_
   refine .off rfl rfl rfl rfl rfl (by rfl) ?_
   refine .v (f_pick_false (by rfl) rfl) rfl (.c rfl (.c rfl .nil)) .nil ?_
   refine .m rfl ?_
   refine .off rfl rfl rfl rfl rfl (by rfl) ?_
   refine .off rfl rfl rfl rfl rfl (by rfl) ?_
   refine .off rfl rfl rfl rfl rfl (by rfl) ?_
   refine .off rfl rfl rfl rfl rfl (by rfl) ?_
   refine .v (f_pick_false (by rfl) rfl) rfl (.c rfl (.c rfl .nil)) .nil ?_
   refine .a rfl ?_
   refine .nil ?_
   obtain rfl := Option.some.inj h
   refine aq_weak (s' := ⟨[(0, .d (.val (.bool false)))], [], []⟩) id hb0 (.keep rfl .nil) .nil rfl (by rfl) ?_
   exact jq
  replace h := ite_f hc17 h
  refine .off rfl rfl rfl hc17 rfl (by rfl) ?_
  refine .off rfl rfl rfl hc17 rfl (by rfl) ?_
  refine .v (f_pick_false (by rfl) hc17) rfl (.c rfl (.c rfl .nil)) .nil ?_
  refine .m rfl ?_
  refine .off rfl rfl rfl rfl rfl (by rfl) ?_
  refine .off rfl rfl rfl rfl rfl (by rfl) ?_
  refine .v (f_pick_false (by rfl) rfl) rfl (.c rfl (.c rfl .nil)) .nil ?_
  refine .m rfl ?_
  refine .off rfl rfl rfl rfl rfl (by rfl) ?_
  refine .off rfl rfl rfl rfl rfl (by rfl) ?_
  refine .off rfl rfl rfl rfl rfl (by rfl) ?_
  refine .v (f_pick_false (by rfl) rfl) rfl (.c rfl (.c rfl .nil)) .nil ?_
  refine .m rfl ?_
  refine .off rfl rfl rfl rfl rfl (by rfl) ?_
  refine .off rfl rfl rfl rfl rfl (by rfl) ?_
  refine .off rfl rfl rfl rfl rfl (by rfl) ?_
  refine .off rfl rfl rfl rfl rfl (by rfl) ?_
  refine .v (f_pick_false (by rfl) rfl) rfl (.c rfl (.c rfl .nil)) .nil ?_
  refine .a rfl ?_
  refine .nil ?_
  obtain rfl := Option.some.inj h
  refine aq_weak (s' := ⟨[(0, .d (.val (.bool false)))], [], []⟩) id hb0 (.keep rfl .nil) .nil rfl (by rfl) ?_
  exact jq
 refine aq_then ?_
 refine aw_ret ?_
 obtain rfl := Option.some.inj h
 exact aq_finp hb0 rfl (.tmp rfl (by rfl) .nil) (by rfl) rfl ⟨rfl, rfl⟩

/- 10: beadroll/beadrolllaw20.ShardReturns -/
def F10_beadrolllaw20_ShardReturns_s0 (n : Nat) (a1 : GTree) (a2 : (List GTx)) (y12 : GShard × Int) (z0_0 : Int) : Option ((Int) ⊕ ((Unit) ⊕ (Unit))) :=
  (if (decide (z0_0 < ((a2).length : Int))) = true then ((rd a2 z0_0).bind fun (x19 : GTx) => ((F39_tx_From n x19).bind fun (y22 : (List Int)) => ((F64_acct_Get n a1 y22).bind fun (y24 : GAccount × Int) => ((rd a2 z0_0).bind fun (x26 : GTx) => ((F39_tx_From n x26).bind fun (y29 : (List Int)) => ((rd a2 z0_0).bind fun (x31 : GTx) => ((F51_beadrolllaw20_find n y12.1 y29 x31.Nonce).bind fun (y34 : GTx × Bool) => (((if (y24.2 != (0 : Int)) = true then some true else ((rd a2 z0_0).bind fun (x37 : GTx) => (if (decide (x37.Nonce ≥ y24.1.Nonce)) = true then (if (!y34.2) = true then some true else ((rd a2 z0_0).bind fun (x42 : GTx) => some (decide (y34.1.Fee < x42.Fee)))) else some false)))).bind fun (o45 : Bool) => (if o45 = true then some (.inr (.inr ())) else some (.inl (IntKind.i64.wrap (z0_0 + (1 : Int))))))))))))) else some (.inr (.inl ())))
def F10_beadrolllaw20_ShardReturns_s2 (n : Nat) (a0 : GShard) (y12 : GShard × Int) (z1_0 : Int) (z2_0 : Int) : Option ((Int) ⊕ ((Unit) ⊕ (Unit))) :=
  ((rd a0.Lines z1_0).bind fun (x51 : GLine) => (if (decide (z2_0 < ((x51.Txs).length : Int))) = true then ((rd a0.Lines z1_0).bind fun (x55 : GLine) => ((rd x55.Txs z2_0).bind fun (x58 : GTx) => ((rd a0.Lines z1_0).bind fun (x61 : GLine) => ((F51_beadrolllaw20_find n y12.1 x61.From x58.Nonce).bind fun (y64 : GTx × Bool) => (((if (!y64.2) = true then some true else (if (!(decide (y64.1 = x58))) = true then some (decide (y64.1.Fee ≤ x58.Fee)) else some false))).bind fun (o68 : Bool) => (if o68 = true then some (.inr (.inr ())) else some (.inl (IntKind.i64.wrap (z2_0 + (1 : Int)))))))))) else some (.inr (.inl ()))))
def F10_beadrolllaw20_ShardReturns_s1 (n : Nat) (a0 : GShard) (y12 : GShard × Int) (z1_0 : Int) : Option ((Int) ⊕ ((Unit) ⊕ (Unit))) :=
  (if (decide (z1_0 < ((a0.Lines).length : Int))) = true then ((loopF (fun (z : Int) => F10_beadrolllaw20_ShardReturns_s2 n a0 y12 z1_0 z) n (0 : Int)).bind (Sum.elim (fun (j71 : Unit) => some (.inl (IntKind.i64.wrap (z1_0 + (1 : Int))))) (fun (j71 : Unit) => some (.inr (.inr ()))))) else some (.inr (.inl ())))
def F10_beadrolllaw20_ShardReturns (n : Nat) (a0 : GShard) (a1 : GTree) (a2 : (List GTx)) : Option (Bool) :=
  ((F48_beadrolllaw20_alive n ).bind fun (y1 : Bool) => ((((F49_beadrollref20_Great n a0).bind fun (y3 : Bool) => (if y3 = true then some true else ((F62_beadrollref06_Great n a1 (600 : Int)).bind fun (y6 : Bool) => (if y6 = true then some true else (if (decide (((a2).length : Int) > (10 : Int))) = true then some true else some (!y1))))))).bind fun (o10 : Bool) => (if o10 = true then some y1 else ((F63_shard_Back n a0 a1 a2).bind fun (y12 : GShard × Int) => (if (y12.2 != (0 : Int)) = true then (((if y1 = true then some (((y12.1.Lines).length : Int) == (0 : Int)) else some false)).bind fun (o16 : Bool) => some o16) else ((loopF (fun (z : Int) => F10_beadrolllaw20_ShardReturns_s0 n a1 a2 y12 z) n (0 : Int)).bind (Sum.elim (fun (j48 : Unit) => ((loopF (fun (z : Int) => F10_beadrolllaw20_ShardReturns_s1 n a0 y12 z) n (0 : Int)).bind (Sum.elim (fun (j73 : Unit) => (((if y1 = true then ((F52_shard_Check n y12.1).bind fun (y76 : Int) => some (y76 == (0 : Int))) else some false)).bind fun (o78 : Bool) => some o78)) (fun (j73 : Unit) => some false)))) (fun (j48 : Unit) => some false))))))))
theorem F10_beadrolllaw20_ShardReturns_ok {n : Nat} {a0 : GShard} {a1 : GTree} {a2 : (List GTx)} {r : Bool} (h : F10_beadrolllaw20_ShardReturns n a0 a1 a2 = some r) :
    ACall Tryd.prog GS 10 [.d (eGShard a0), .d (eGTree a1), .d (eL24 a2)] [] (fun r' hp' => r' = .d (.val (.bool r)) ∧ hp' = []) := by
 refine acall_of_body mixed Tryd.func10 rfl (by rfl) ?_
 intro C hro hgl hb0
 unfold F10_beadrolllaw20_ShardReturns at h
 refine aw_rs ?_
 refine .n (f_box 3 (by rfl) (by rfl)) rfl (.c rfl .nil) rfl ?_
 refine .n (f_box 4 (by rfl) (by rfl)) rfl (.c rfl .nil) rfl ?_
 refine .a rfl ?_
 refine .z ?_
 obtain ⟨y1, hy2, h⟩ := bind_some h
 refine .v (f_callP hgl (by rfl) en48 rfl (by rfl) (by rfl) (by rfl) (F48_beadrolllaw20_alive_ok hy2)) rfl .nil .nil ?_
 refine .a rfl ?_
 refine .nil (aq_then ?_)
 refine aw_seq ?_
 refine aw_seq ?_
 obtain ⟨o10, ho80, h⟩ := bind_some h
 refine aw_join (.normal) ⟨[(2, .d (eL24 a2)), (3, .ptr 3 0 []), (4, .ptr 4 0 []), (7, .d (.val (.bool y1))), (35, .d (.val (.bool o10)))], [(3, .av (.d (eGShard a0))), (4, .av (.d (eGTree a1)))], []⟩ ?_ ?_
 ·replace h := ho80
  refine aw_r ?_
  refine .l 3 0 [] (.d (eGShard a0)) (.d (eGShard a0)) ty74 ?_
  obtain ⟨y3, hy4, h⟩ := bind_some h
  refine .v (f_callP hgl (by rfl) en49 rfl (by rfl) (by rfl) (by rfl) (F49_beadrollref20_Great_ok hy4)) rfl (.c rfl .nil) .nil ?_
  refine .m rfl ?_
  rcases Bool.eq_false_or_eq_true y3 with hc5 | hc5
  ·replace h := ite_t hc5 h
   refine .off rfl rfl rfl hc5 rfl (by rfl) ?_
   refine .off rfl rfl rfl hc5 rfl (by rfl) ?_
   refine .v (f_pick_true (by rfl) hc5) rfl (.c rfl (.c rfl .nil)) .nil ?_
   refine .m rfl ?_
   refine .off rfl rfl rfl rfl rfl (by rfl) ?_
   refine .off rfl rfl rfl rfl rfl (by rfl) ?_
   refine .off rfl rfl rfl rfl rfl (by rfl) ?_
   refine .v (f_pick_true (by rfl) rfl) rfl (.c rfl (.c rfl .nil)) .nil ?_
   refine .m rfl ?_
   refine .off rfl rfl rfl rfl rfl (by rfl) ?_
   refine .off rfl rfl rfl rfl rfl (by rfl) ?_
   refine .v (f_pick_true (by rfl) rfl) rfl (.c rfl (.c rfl .nil)) .nil ?_
   refine .nil ?_
   obtain rfl := Option.some.inj h
   refine aq_weak (s' := ⟨[(2, .d (eL24 a2)), (3, .ptr 3 0 []), (4, .ptr 4 0 []), (7, .d (.val (.bool y1))), (35, .d (.val (.bool true)))], [(3, .av (.d (eGShard a0))), (4, .av (.d (eGTree a1)))], []⟩) id hb0 (.keep rfl (.keep rfl (.keep rfl (.keep rfl (.keep rfl .nil))))) (.keep rfl (.keep rfl .nil)) rfl (by rfl) ?_
   exact jq
  replace h := ite_f hc5 h
  refine .gv (f_load (n := 0) (o := 4) (off := 0) (p := []) (c := .d (eGTree a1)) (z := .d (eGTree a1)) (by rfl) rfl ty90 (by rfl)) rfl rfl rfl hc5 (.c rfl .nil) (.cons rfl .nil) ?_
  obtain ⟨y6, hy7, h⟩ := bind_some h
  refine .gv (f_callP hgl (by rfl) en62 rfl (by rfl) (by rfl) (by rfl) (F62_beadrollref06_Great_ok hy7)) rfl rfl rfl hc5 (.c rfl (.c rfl .nil)) .nil ?_
  refine .v (f_pick_false (by rfl) hc5) rfl (.c rfl (.c rfl .nil)) .nil ?_
  refine .m rfl ?_
  rcases Bool.eq_false_or_eq_true y6 with hc8 | hc8
  ·replace h := ite_t hc8 h
   refine .off rfl rfl rfl hc8 rfl (by rfl) ?_
   refine .off rfl rfl rfl hc8 rfl (by rfl) ?_
   refine .off rfl rfl rfl hc8 rfl (by rfl) ?_
   refine .v (f_pick_true (by rfl) hc8) rfl (.c rfl (.c rfl .nil)) .nil ?_
   refine .m rfl ?_
   refine .off rfl rfl rfl rfl rfl (by rfl) ?_
   refine .off rfl rfl rfl rfl rfl (by rfl) ?_
   refine .v (f_pick_true (by rfl) rfl) rfl (.c rfl (.c rfl .nil)) .nil ?_
   refine .nil ?_
   obtain rfl := Option.some.inj h
   refine aq_weak (s' := ⟨[(2, .d (eL24 a2)), (3, .ptr 3 0 []), (4, .ptr 4 0 []), (7, .d (.val (.bool y1))), (35, .d (.val (.bool true)))], [(3, .av (.d (eGShard a0))), (4, .av (.d (eGTree a1)))], []⟩) id hb0 (.keep rfl (.keep rfl (.keep rfl (.keep rfl (.keep rfl .nil))))) (.keep rfl (.keep rfl .nil)) rfl (by rfl) ?_
   exact jq
  replace h := ite_f hc8 h
  refine .gv (f_move (by rfl)) rfl rfl rfl hc8 (.c rfl .nil) .nil ?_
  refine .gv (f_lenD (n := (a2).length) (by rfl) sl24 rfl (by simp)) rfl rfl rfl hc8 (.c rfl .nil) .nil ?_
  refine .gv (f_binI (by rfl) rfl (by rfl)) rfl rfl rfl hc8 (.c rfl (.c rfl .nil)) .nil ?_
  refine .v (f_pick_false (by rfl) hc8) rfl (.c rfl (.c rfl .nil)) .nil ?_
  refine .m rfl ?_
  rcases Bool.eq_false_or_eq_true (decide (((a2).length : Int) > (10 : Int))) with hc9 | hc9
  ·replace h := ite_t hc9 h
   refine .off rfl rfl rfl hc9 rfl (by rfl) ?_
   refine .off rfl rfl rfl hc9 rfl (by rfl) ?_
   refine .v (f_pick_true (by rfl) hc9) rfl (.c rfl (.c rfl .nil)) .nil ?_
   refine .nil ?_
   obtain rfl := Option.some.inj h
   refine aq_weak (s' := ⟨[(2, .d (eL24 a2)), (3, .ptr 3 0 []), (4, .ptr 4 0 []), (7, .d (.val (.bool y1))), (35, .d (.val (.bool true)))], [(3, .av (.d (eGShard a0))), (4, .av (.d (eGTree a1)))], []⟩) id hb0 (.keep rfl (.keep rfl (.keep rfl (.keep rfl (.keep rfl .nil))))) (.keep rfl (.keep rfl .nil)) rfl (by rfl) ?_
   exact jq
  replace h := ite_f hc9 h
  refine .gv (f_move (by rfl)) rfl rfl rfl hc9 (.c rfl .nil) .nil ?_
  refine .gv (f_not (by rfl)) rfl rfl rfl hc9 (.c rfl .nil) .nil ?_
  refine .v (f_pick_false (by rfl) hc9) rfl (.c rfl (.c rfl .nil)) .nil ?_
  refine .nil ?_
  obtain rfl := Option.some.inj h
  refine aq_weak (s' := ⟨[(2, .d (eL24 a2)), (3, .ptr 3 0 []), (4, .ptr 4 0 []), (7, .d (.val (.bool y1))), (35, .d (.val (.bool (!y1))))], [(3, .av (.d (eGShard a0))), (4, .av (.d (eGTree a1)))], []⟩) id hb0 (.keep rfl (.keep rfl (.keep rfl (.keep rfl (.keep rfl .nil))))) (.keep rfl (.keep rfl .nil)) rfl (by rfl) ?_
  exact jq
 refine aq_then ?_
 refine aw_cond rfl (fun hc11 => ?_) (fun hc11 => ?_)
 ·replace h := ite_t hc11 h
  refine aw_rs ?_
  refine .m rfl ?_
  refine .a rfl ?_
  refine .nil (aq_then ?_)
  refine aw_ret ?_
  refine aq_then_ret ?_
  obtain rfl := Option.some.inj h
  exact aq_finp hb0 rfl (.tmp rfl (by rfl) .nil) (by rfl) rfl ⟨rfl, rfl⟩
 replace h := ite_f hc11 h
 refine aw_skip ?_
 refine aq_then ?_
 refine aw_rs ?_
 refine .l 3 0 [] (.d (eGShard a0)) (.d (eGShard a0)) ty74 ?_
 refine .l 4 0 [] (.d (eGTree a1)) (.d (eGTree a1)) ty90 ?_
 refine .m rfl ?_
 obtain ⟨y12, hy13, h⟩ := bind_some h
 refine .v (f_callP hgl (by rfl) en63 rfl (by rfl) (by rfl) (by rfl) (F63_shard_Back_ok hy13)) rfl (.c rfl (.c rfl (.c rfl .nil))) .nil ?_
 refine .m rfl ?_
 refine .v (f_extract (by rfl) rfl) rfl (.c rfl .nil) .nil ?_
 refine .v (f_extract (by rfl) rfl) rfl (.c rfl .nil) .nil ?_
 refine .n (f_alloc 8 (by rfl) zrv74) rfl .nil rfl ?_
 refine .s (f_store (n := 0) (o := 8) (off := 0) (p := []) (c := .st [.d (.val (.slice none 0 0))]) (old := .st [.d (.val (.slice none 0 0))]) (z := .d (eGShard y12.1)) (c' := .d (eGShard y12.1)) rfl rfl (by rfl) ty74 (by rfl)) rfl (.c rfl (.c rfl .nil)) (.cons rfl .nil) ?_
 refine .a rfl ?_
 refine .nil (aq_then ?_)
 refine aw_seq ?_
 refine aw_rs ?_
 refine .m rfl ?_
 refine .b rfl rfl rfl ?_
 refine .nil (aq_then ?_)
 refine aw_cond rfl (fun hc14 => ?_) (fun hc14 => ?_)
 ·replace h := ite_t hc14 h
  refine aw_seq ?_
  obtain ⟨o16, ho17, h⟩ := bind_some h
  refine aw_join (.normal) ⟨[(6, .d (.val (.bool o16)))], [], []⟩ ?_ ?_
  ·replace h := ho17
   refine aw_r ?_
   refine .m rfl ?_
   refine .m rfl ?_
   rcases Bool.eq_false_or_eq_true y1 with hc15 | hc15
   ·replace h := ite_t hc15 h
    refine .gv (f_fieldAddr (n := 0) (by rfl) fl74_0 (by decide)) rfl rfl rfl hc15 (.c rfl .nil) .nil ?_
    refine .gv (f_load (n := 0) (o := 8) (off := (0 + 0)) (p := [0]) (c := .d (eGShard y12.1)) (z := .d (eL72 y12.1.Lines)) (by rfl) rfl ty72 (by rfl)) rfl rfl rfl hc15 (.c rfl .nil) (.cons rfl .nil) ?_
    refine .gv (f_lenD (n := (y12.1.Lines).length) (by rfl) sl72 rfl (by simp)) rfl rfl rfl hc15 (.c rfl .nil) .nil ?_
    refine .gv (f_binI (by rfl) rfl (by rfl)) rfl rfl rfl hc15 (.c rfl (.c rfl .nil)) .nil ?_
    refine .v (f_pick_true (by rfl) hc15) rfl (.c rfl (.c rfl .nil)) .nil ?_
    refine .a rfl ?_
    refine .nil ?_
    obtain rfl := Option.some.inj h
    refine aq_weak (s' := ⟨[(6, .d (.val (.bool (((y12.1.Lines).length : Int) == (0 : Int)))))], [], []⟩) id hb0 (.keep rfl .nil) .nil rfl (by rfl) ?_
    exact jq
   replace h := ite_f hc15 h
   refine .off rfl rfl rfl hc15 rfl (by rfl) ?_
   refine .off rfl rfl rfl hc15 rfl (by rfl) ?_
   refine .off rfl rfl rfl hc15 rfl (by rfl) ?_
   refine .off rfl rfl rfl hc15 rfl (by rfl) ?_
   refine .v (f_pick_false (by rfl) hc15) rfl (.c rfl (.c rfl .nil)) .nil ?_
   refine .a rfl ?_
   refine .nil ?_
   obtain rfl := Option.some.inj h
   refine aq_weak (s' := ⟨[(6, .d (.val (.bool false)))], [], []⟩) id hb0 (.keep rfl .nil) .nil rfl (by rfl) ?_
   exact jq
  refine aq_then ?_
  refine aw_ret ?_
  refine aq_then_ret ?_
  obtain rfl := Option.some.inj h
  exact aq_finp hb0 rfl (.tmp rfl (by rfl) .nil) (by rfl) rfl ⟨rfl, rfl⟩
 replace h := ite_f hc14 h
 refine aw_skip ?_
 refine aq_then ?_
 refine aw_seq ?_
 refine aw_rs ?_
 refine .a rfl ?_
 refine .nil (aq_then ?_)
 refine aw_block ?_
 refine aw_weak (s' := ⟨[(2, .d (eL24 a2)), (3, .ptr 3 0 []), (4, .ptr 4 0 []), (7, .d (.val (.bool y1))), (8, .ptr 8 0 []), (10, .d (.val (.int .i64 (0 : Int))))], [(3, .av (.d (eGShard a0))), (4, .av (.d (eGTree a1))), (8, .av (.d (eGShard y12.1)))], []⟩) id hb0 (.keep rfl (.keep rfl (.keep rfl (.keep rfl (.keep rfl (.keep rfl .nil)))))) (.keep rfl (.keep rfl (.keep rfl .nil))) rfl (by rfl) ?_
 obtain ⟨o48, ho49, h⟩ := bind_some h
 refine aw_loopX (σ := Int) (fun z => ⟨[(2, .d (eL24 a2)), (3, .ptr 3 0 []), (4, .ptr 4 0 []), (7, .d (.val (.bool y1))), (8, .ptr 8 0 []), (10, .d (.val (.int .i64 z)))], [(3, .av (.d (eGShard a0))), (4, .av (.d (eGTree a1))), (8, .av (.d (eGShard y12.1)))], []⟩) (Sum.elim (fun _ => .exit 0) (fun _ => .ret)) (Sum.elim (fun j48 => ⟨[(3, .ptr 3 0 []), (7, .d (.val (.bool y1))), (8, .ptr 8 0 [])], [(3, .av (.d (eGShard a0))), (8, .av (.d (eGShard y12.1)))], []⟩) (fun j48 => ⟨[(6, .d (.val (.bool false)))], [], []⟩)) ho49 (by intro b; rcases b with _ | _ <;> rfl) ?_ ?_
 ·clear h ho49
  intro z0_0 o h
  change F10_beadrolllaw20_ShardReturns_s0 n a1 a2 y12 z0_0 = some o at h
  unfold F10_beadrolllaw20_ShardReturns_s0 at h
  show AW _ _ _ ⟨[(2, .d (eL24 a2)), (3, .ptr 3 0 []), (4, .ptr 4 0 []), (7, .d (.val (.bool y1))), (8, .ptr 8 0 []), (10, .d (.val (.int .i64 z0_0)))], [(3, .av (.d (eGShard a0))), (4, .av (.d (eGTree a1))), (8, .av (.d (eGShard y12.1)))], []⟩
  refine aw_seq ?_
  refine aw_rs ?_
  refine .m rfl ?_
  refine .m rfl ?_
  refine .v (f_lenD (n := (a2).length) (by rfl) sl24 rfl (by simp)) rfl (.c rfl .nil) .nil ?_
  refine .b rfl rfl rfl ?_
  refine .nil (aq_then ?_)
  refine aw_cond rfl (fun hc18 => ?_) (fun hc18 => ?_)
  ·replace h := ite_t hc18 h
   refine aw_skip ?_
   refine aq_then ?_
   refine aw_seq ?_
   refine aw_block ?_
   refine aw_rds ?_
   refine .v (f_load (n := 0) (o := 4) (off := 0) (p := []) (c := .d (eGTree a1)) (z := .d (eGTree a1)) (by rfl) rfl ty90 (by rfl)) rfl (.c rfl .nil) (.cons rfl .nil) ?_
   refine .v (f_move (by rfl)) rfl (.c rfl .nil) .nil ?_
   refine .v (f_move (by rfl)) rfl (.c rfl .nil) .nil ?_
   obtain ⟨x19, hx20, h⟩ := bind_some h
   obtain ⟨hx21, hx20⟩ := rd_some hx20
   refine .v (f_indexS (by rfl) sl24 hx21 (rd_map _ hx20)) rfl (.c rfl (.c rfl .nil)) .nil ?_
   refine .v (f_loadR (z := (eGTx x19)) (by rfl) ty36) rfl (.c rfl .nil) .nil ?_
   obtain ⟨y22, hy23, h⟩ := bind_some h
   refine .v (f_callP hgl (by rfl) en39 rfl (by rfl) (by rfl) (by rfl) (F39_tx_From_ok hy23)) rfl (.c rfl .nil) .nil ?_
   obtain ⟨y24, hy25, h⟩ := bind_some h
   refine .v (f_callP hgl (by rfl) en64 rfl (by rfl) (by rfl) (by rfl) (F64_acct_Get_ok hy25)) rfl (.c rfl (.c rfl .nil)) .nil ?_
   refine .v (f_move (by rfl)) rfl (.c rfl .nil) .nil ?_
   refine .v (f_extract (by rfl) rfl) rfl (.c rfl .nil) .nil ?_
   refine .v (f_extract (by rfl) rfl) rfl (.c rfl .nil) .nil ?_
   refine .n (f_alloc 11 (by rfl) zr95) rfl .nil rfl ?_
   refine .s (f_store (n := 0) (o := 11) (off := 0) (p := []) (c := .d (eGAccount (⟨(0 : Int), (0 : Int)⟩ : GAccount))) (old := .d (eGAccount (⟨(0 : Int), (0 : Int)⟩ : GAccount))) (z := .d (eGAccount y24.1)) (c' := .d (eGAccount y24.1)) rfl rfl (by rfl) ty95 (by rfl)) rfl (.c rfl (.c rfl .nil)) (.cons rfl .nil) ?_
   refine .v (f_assign (by rfl)) rfl (.c rfl .nil) .nil ?_
   refine .nil (by kernel_rfl) ?_
   refine aw_rds ?_
   refine .v (f_load (n := 0) (o := 8) (off := 0) (p := []) (c := .d (eGShard y12.1)) (z := .d (eGShard y12.1)) (by rfl) rfl ty74 (by rfl)) rfl (.c rfl .nil) (.cons rfl .nil) ?_
   refine .v (f_move (by rfl)) rfl (.c rfl .nil) .nil ?_
   refine .v (f_move (by rfl)) rfl (.c rfl .nil) .nil ?_
   obtain ⟨x26, hx27, h⟩ := bind_some h
   obtain ⟨hx28, hx27⟩ := rd_some hx27
   refine .v (f_indexS (by rfl) sl24 hx28 (rd_map _ hx27)) rfl (.c rfl (.c rfl .nil)) .nil ?_
   refine .v (f_loadR (z := (eGTx x26)) (by rfl) ty36) rfl (.c rfl .nil) .nil ?_
   obtain ⟨y29, hy30, h⟩ := bind_some h
   refine .v (f_callP hgl (by rfl) en39 rfl (by rfl) (by rfl) (by rfl) (F39_tx_From_ok hy30)) rfl (.c rfl .nil) .nil ?_
   refine .v (f_move (by rfl)) rfl (.c rfl .nil) .nil ?_
   refine .v (f_move (by rfl)) rfl (.c rfl .nil) .nil ?_
   obtain ⟨x31, hx32, h⟩ := bind_some h
   obtain ⟨hx33, hx32⟩ := rd_some hx32
   refine .v (f_indexS (by rfl) sl24 hx33 (rd_map _ hx32)) rfl (.c rfl (.c rfl .nil)) .nil ?_
   refine .v (f_fieldAddrR (by rfl) fl36_2 (by decide) rfl) rfl (.c rfl .nil) .nil ?_
   refine .v (f_loadR (z := (.val (.int .u64 x31.Nonce))) (by rfl) ty27) rfl (.c rfl .nil) .nil ?_
   obtain ⟨y34, hy35, h⟩ := bind_some h
   refine .v (f_callP hgl (by rfl) en51 rfl (by rfl) (by rfl) (by rfl) (F51_beadrolllaw20_find_ok hy35)) rfl (.c rfl (.c rfl (.c rfl .nil))) .nil ?_
   refine .v (f_move (by rfl)) rfl (.c rfl .nil) .nil ?_
   refine .v (f_extract (by rfl) rfl) rfl (.c rfl .nil) .nil ?_
   refine .v (f_extract (by rfl) rfl) rfl (.c rfl .nil) .nil ?_
   refine .n (f_alloc 13 (by rfl) zr36) rfl .nil rfl ?_
   refine .s (f_store (n := 0) (o := 13) (off := 0) (p := []) (c := .d (eGTx (⟨(List.replicate 32 (0 : Int)), (List.replicate 32 (0 : Int)), (0 : Int), (0 : Int), (0 : Int), (List.replicate 32 (0 : Int))⟩ : GTx))) (old := .d (eGTx (⟨(List.replicate 32 (0 : Int)), (List.replicate 32 (0 : Int)), (0 : Int), (0 : Int), (0 : Int), (List.replicate 32 (0 : Int))⟩ : GTx))) (z := .d (eGTx y34.1)) (c' := .d (eGTx y34.1)) rfl rfl (by rfl) ty36 (by rfl)) rfl (.c rfl (.c rfl .nil)) (.cons rfl .nil) ?_
   refine .v (f_assign (by rfl)) rfl (.c rfl .nil) .nil ?_
   refine .nil (by kernel_rfl) ?_
   refine aw_seq ?_
   obtain ⟨o45, ho47, h⟩ := bind_some h
   refine aw_join (.normal) ⟨[(2, .d (eL24 a2)), (3, .ptr 3 0 []), (4, .ptr 4 0 []), (7, .d (.val (.bool y1))), (8, .ptr 8 0 []), (10, .d (.val (.int .i64 z0_0))), (109, .d (.val (.bool o45)))], [(3, .av (.d (eGShard a0))), (4, .av (.d (eGTree a1))), (8, .av (.d (eGShard y12.1)))], []⟩ ?_ ?_
   ·replace h := ho47
    refine aw_rd ?_
    refine .v (f_move (by rfl)) rfl (.c rfl .nil) .nil ?_
    refine .v (f_binI (by rfl) rfl (by rfl)) rfl (.c rfl (.c rfl .nil)) .nil ?_
    refine .v (f_move (by rfl)) rfl (.c rfl .nil) .nil ?_
    rcases Bool.eq_false_or_eq_true (y24.2 != (0 : Int)) with hc36 | hc36
    ·replace h := ite_t hc36 h
     refine .off rfl rfl rfl hc36 rfl (by rfl) ?_
     refine .off rfl rfl rfl hc36 rfl (by rfl) ?_
     refine .off rfl rfl rfl hc36 rfl (by rfl) ?_
     refine .off rfl rfl rfl hc36 rfl (by rfl) ?_
     refine .off rfl rfl rfl hc36 rfl (by rfl) ?_
     refine .off rfl rfl rfl hc36 rfl (by rfl) ?_
     refine .off rfl rfl rfl hc36 rfl (by rfl) ?_
     refine .off rfl rfl rfl hc36 rfl (by rfl) ?_
     refine .off rfl rfl rfl hc36 rfl (by rfl) ?_
     refine .offu rfl rfl rfl rfl (by rfl) ?_
     refine .offu rfl rfl rfl rfl (by rfl) ?_
     refine .offu rfl rfl rfl rfl (by rfl) ?_
     refine .offu rfl rfl rfl rfl (by rfl) ?_
     refine .offu rfl rfl rfl rfl (by rfl) ?_
     refine .offu rfl rfl rfl rfl (by rfl) ?_
     refine .offu rfl rfl rfl rfl (by rfl) ?_
     refine .offu rfl rfl rfl rfl (by rfl) ?_
     refine .offu rfl rfl rfl rfl (by rfl) ?_
     refine .offu rfl rfl rfl rfl (by rfl) ?_
     refine .offu rfl rfl rfl rfl (by rfl) ?_
     refine .offu rfl rfl rfl rfl (by rfl) ?_
     refine .off rfl rfl rfl hc36 rfl (by rfl) ?_
     refine .v (f_pick_true (by rfl) hc36) rfl (.c rfl (.c rfl .nil)) .nil ?_
     refine .nil (by kernel_rfl) ?_
     obtain rfl := Option.some.inj h
     refine aq_weak (s' := ⟨[(2, .d (eL24 a2)), (3, .ptr 3 0 []), (4, .ptr 4 0 []), (7, .d (.val (.bool y1))), (8, .ptr 8 0 []), (10, .d (.val (.int .i64 z0_0))), (109, .d (.val (.bool true)))], [(3, .av (.d (eGShard a0))), (4, .av (.d (eGTree a1))), (8, .av (.d (eGShard y12.1)))], []⟩) id hb0 (.keep rfl (.keep rfl (.keep rfl (.keep rfl (.keep rfl (.keep rfl (.keep rfl .nil))))))) (.keep rfl (.keep rfl (.keep rfl .nil))) rfl (by rfl) ?_
     exact jq
    replace h := ite_f hc36 h
    refine .gv (f_move (by rfl)) rfl rfl rfl hc36 (.c rfl .nil) .nil ?_
    refine .gv (f_move (by rfl)) rfl rfl rfl hc36 (.c rfl .nil) .nil ?_
    obtain ⟨x37, hx38, h⟩ := bind_some h
    obtain ⟨hx39, hx38⟩ := rd_some hx38
    refine .gv (f_indexS (by rfl) sl24 hx39 (rd_map _ hx38)) rfl rfl rfl hc36 (.c rfl (.c rfl .nil)) .nil ?_
    refine .gv (f_fieldAddrR (by rfl) fl36_2 (by decide) rfl) rfl rfl rfl hc36 (.c rfl .nil) .nil ?_
    refine .gv (f_loadR (z := (.val (.int .u64 x37.Nonce))) (by rfl) ty27) rfl rfl rfl hc36 (.c rfl .nil) .nil ?_
    refine .gv (f_fieldAddr (n := 0) (by rfl) fl95_0 (by decide)) rfl rfl rfl hc36 (.c rfl .nil) .nil ?_
    refine .gv (f_load (n := 0) (o := 11) (off := (0 + 0)) (p := [0]) (c := .d (eGAccount y24.1)) (z := .d (.val (.int .u64 y24.1.Nonce))) (by rfl) rfl ty27 (by rfl)) rfl rfl rfl hc36 (.c rfl .nil) (.cons rfl .nil) ?_
    refine .gv (f_binI (by rfl) rfl (by rfl)) rfl rfl rfl hc36 (.c rfl (.c rfl .nil)) .nil ?_
    refine .gv (f_move (by rfl)) rfl rfl rfl hc36 (.c rfl .nil) .nil ?_
    rcases Bool.eq_false_or_eq_true (decide (x37.Nonce ≥ y24.1.Nonce)) with hc40 | hc40
    ·replace h := ite_t hc40 h
     refine .gv (f_move (by rfl)) rfl rfl rfl hc40 (.c rfl .nil) .nil ?_
     refine .gv (f_not (by rfl)) rfl rfl rfl hc40 (.c rfl .nil) .nil ?_
     refine .gv (f_move (by rfl)) rfl rfl rfl hc40 (.c rfl .nil) .nil ?_
     rcases Bool.eq_false_or_eq_true (!y34.2) with hc41 | hc41
     ·replace h := ite_t hc41 h
      refine .off rfl rfl rfl hc41 rfl (by rfl) ?_
      refine .off rfl rfl rfl hc41 rfl (by rfl) ?_
      refine .off rfl rfl rfl hc41 rfl (by rfl) ?_
      refine .off rfl rfl rfl hc41 rfl (by rfl) ?_
      refine .off rfl rfl rfl hc41 rfl (by rfl) ?_
      refine .off rfl rfl rfl hc41 rfl (by rfl) ?_
      refine .off rfl rfl rfl hc41 rfl (by rfl) ?_
      refine .off rfl rfl rfl hc41 rfl (by rfl) ?_
      refine .gv (f_pick_true (by rfl) hc41) rfl rfl rfl hc40 (.c rfl (.c rfl .nil)) .nil ?_
      refine .gv (f_pick_true (by rfl) hc40) rfl rfl rfl hc36 (.c rfl (.c rfl .nil)) .nil ?_
      refine .v (f_pick_false (by rfl) hc36) rfl (.c rfl (.c rfl .nil)) .nil ?_
      refine .nil (by kernel_rfl) ?_
      obtain rfl := Option.some.inj h
      refine aq_weak (s' := ⟨[(2, .d (eL24 a2)), (3, .ptr 3 0 []), (4, .ptr 4 0 []), (7, .d (.val (.bool y1))), (8, .ptr 8 0 []), (10, .d (.val (.int .i64 z0_0))), (109, .d (.val (.bool true)))], [(3, .av (.d (eGShard a0))), (4, .av (.d (eGTree a1))), (8, .av (.d (eGShard y12.1)))], []⟩) id hb0 (.keep rfl (.keep rfl (.keep rfl (.keep rfl (.keep rfl (.keep rfl (.keep rfl .nil))))))) (.keep rfl (.keep rfl (.keep rfl .nil))) rfl (by rfl) ?_
      exact jq
     replace h := ite_f hc41 h
     refine .gv (f_fieldAddr (n := 66) (by rfl) fl36_4 (by decide)) rfl rfl rfl hc41 (.c rfl .nil) .nil ?_
     refine .gv (f_load (n := 0) (o := 13) (off := (0 + 66)) (p := [4]) (c := .d (eGTx y34.1)) (z := .d (.val (.int .u64 y34.1.Fee))) (by rfl) rfl ty27 (by rfl)) rfl rfl rfl hc41 (.c rfl .nil) (.cons rfl .nil) ?_
     refine .gv (f_move (by rfl)) rfl rfl rfl hc41 (.c rfl .nil) .nil ?_
     refine .gv (f_move (by rfl)) rfl rfl rfl hc41 (.c rfl .nil) .nil ?_
     obtain ⟨x42, hx43, h⟩ := bind_some h
     obtain ⟨hx44, hx43⟩ := rd_some hx43
     refine .gv (f_indexS (by rfl) sl24 hx44 (rd_map _ hx43)) rfl rfl rfl hc41 (.c rfl (.c rfl .nil)) .nil ?_
     refine .gv (f_fieldAddrR (by rfl) fl36_4 (by decide) rfl) rfl rfl rfl hc41 (.c rfl .nil) .nil ?_
     refine .gv (f_loadR (z := (.val (.int .u64 x42.Fee))) (by rfl) ty27) rfl rfl rfl hc41 (.c rfl .nil) .nil ?_
     refine .gv (f_binI (by rfl) rfl (by rfl)) rfl rfl rfl hc41 (.c rfl (.c rfl .nil)) .nil ?_
     refine .gv (f_pick_false (by rfl) hc41) rfl rfl rfl hc40 (.c rfl (.c rfl .nil)) .nil ?_
     refine .gv (f_pick_true (by rfl) hc40) rfl rfl rfl hc36 (.c rfl (.c rfl .nil)) .nil ?_
     refine .v (f_pick_false (by rfl) hc36) rfl (.c rfl (.c rfl .nil)) .nil ?_
     refine .nil (by kernel_rfl) ?_
     obtain rfl := Option.some.inj h
     refine aq_weak (s' := ⟨[(2, .d (eL24 a2)), (3, .ptr 3 0 []), (4, .ptr 4 0 []), (7, .d (.val (.bool y1))), (8, .ptr 8 0 []), (10, .d (.val (.int .i64 z0_0))), (109, .d (.val (.bool (decide (y34.1.Fee < x42.Fee)))))], [(3, .av (.d (eGShard a0))), (4, .av (.d (eGTree a1))), (8, .av (.d (eGShard y12.1)))], []⟩) id hb0 (.keep rfl (.keep rfl (.keep rfl (.keep rfl (.keep rfl (.keep rfl (.keep rfl .nil))))))) (.keep rfl (.keep rfl (.keep rfl .nil))) rfl (by rfl) ?_
     exact jq
    replace h := ite_f hc40 h
    refine .off rfl rfl rfl hc40 rfl (by rfl) ?_
    refine .off rfl rfl rfl hc40 rfl (by rfl) ?_
    refine .off rfl rfl rfl hc40 rfl (by rfl) ?_
    refine .offu rfl rfl rfl rfl (by rfl) ?_
    refine .offu rfl rfl rfl rfl (by rfl) ?_
    refine .offu rfl rfl rfl rfl (by rfl) ?_
    refine .offu rfl rfl rfl rfl (by rfl) ?_
    refine .offu rfl rfl rfl rfl (by rfl) ?_
    refine .offu rfl rfl rfl rfl (by rfl) ?_
    refine .offu rfl rfl rfl rfl (by rfl) ?_
    refine .offu rfl rfl rfl rfl (by rfl) ?_
    refine .off rfl rfl rfl hc40 rfl (by rfl) ?_
    refine .gv (f_pick_false (by rfl) hc40) rfl rfl rfl hc36 (.c rfl (.c rfl .nil)) .nil ?_
    refine .v (f_pick_false (by rfl) hc36) rfl (.c rfl (.c rfl .nil)) .nil ?_
    refine .nil (by kernel_rfl) ?_
    obtain rfl := Option.some.inj h
    refine aq_weak (s' := ⟨[(2, .d (eL24 a2)), (3, .ptr 3 0 []), (4, .ptr 4 0 []), (7, .d (.val (.bool y1))), (8, .ptr 8 0 []), (10, .d (.val (.int .i64 z0_0))), (109, .d (.val (.bool false)))], [(3, .av (.d (eGShard a0))), (4, .av (.d (eGTree a1))), (8, .av (.d (eGShard y12.1)))], []⟩) id hb0 (.keep rfl (.keep rfl (.keep rfl (.keep rfl (.keep rfl (.keep rfl (.keep rfl .nil))))))) (.keep rfl (.keep rfl (.keep rfl .nil))) rfl (by rfl) ?_
    exact jq
   refine aq_then ?_
   refine aw_cond rfl (fun hc46 => ?_) (fun hc46 => ?_)
   ·replace h := ite_t hc46 h
    refine aw_rs ?_
    refine .a rfl ?_
    refine .nil (aq_then ?_)
    refine aw_ret ?_
    refine aq_block_ret ?_
    refine aq_then_ret ?_
    obtain rfl := Option.some.inj h
    refine aq_weak (s' := ⟨[(6, .d (.val (.bool false)))], [], []⟩) id hb0 (.keep rfl .nil) .nil rfl (by rfl) ?_
    exact jq
   replace h := ite_f hc46 h
   refine aw_skip ?_
   refine aq_block ?_
   refine aq_then ?_
   refine aw_r ?_
   refine .m rfl ?_
   refine .b rfl rfl rfl ?_
   refine .a rfl ?_
   refine .nil ?_
   obtain rfl := Option.some.inj h
   refine aq_weak (s' := ⟨[(2, .d (eL24 a2)), (3, .ptr 3 0 []), (4, .ptr 4 0 []), (7, .d (.val (.bool y1))), (8, .ptr 8 0 []), (10, .d (.val (.int .i64 (IntKind.i64.wrap (z0_0 + (1 : Int))))))], [(3, .av (.d (eGShard a0))), (4, .av (.d (eGTree a1))), (8, .av (.d (eGShard y12.1)))], []⟩) id hb0 (.keep rfl (.keep rfl (.keep rfl (.keep rfl (.keep rfl (.keep rfl .nil)))))) (.keep rfl (.keep rfl (.keep rfl .nil))) rfl (by rfl) ?_
   exact jq
  replace h := ite_f hc18 h
  refine aw_exit ?_
  refine aq_then_exit ?_
  obtain rfl := Option.some.inj h
  refine aq_weak (s' := ⟨[(3, .ptr 3 0 []), (7, .d (.val (.bool y1))), (8, .ptr 8 0 [])], [(3, .av (.d (eGShard a0))), (8, .av (.d (eGShard y12.1)))], []⟩) id hb0 (.keep rfl (.keep rfl (.keep rfl .nil))) (.keep rfl (.keep rfl .nil)) rfl (by rfl) ?_
  exact jq
 rcases o48 with j48 | j48
 ·replace h := elim_l h
  refine aq_block_exit ?_
  refine aq_then ?_
  refine aw_seq ?_
  refine aw_rs ?_
  refine .a rfl ?_
  refine .nil (aq_then ?_)
  refine aw_block ?_
  refine aw_weak (s' := ⟨[(3, .ptr 3 0 []), (7, .d (.val (.bool y1))), (8, .ptr 8 0 []), (15, .d (.val (.int .i64 (0 : Int))))], [(3, .av (.d (eGShard a0))), (8, .av (.d (eGShard y12.1)))], []⟩) id hb0 (.keep rfl (.keep rfl (.keep rfl (.keep rfl .nil)))) (.keep rfl (.keep rfl .nil)) rfl (by rfl) ?_
  obtain ⟨o73, ho74, h⟩ := bind_some h
  refine aw_loopX (σ := Int) (fun z => ⟨[(3, .ptr 3 0 []), (7, .d (.val (.bool y1))), (8, .ptr 8 0 []), (15, .d (.val (.int .i64 z)))], [(3, .av (.d (eGShard a0))), (8, .av (.d (eGShard y12.1)))], []⟩) (Sum.elim (fun _ => .exit 2) (fun _ => .ret)) (Sum.elim (fun j73 => ⟨[(7, .d (.val (.bool y1))), (8, .ptr 8 0 [])], [(8, .av (.d (eGShard y12.1)))], []⟩) (fun j73 => ⟨[(6, .d (.val (.bool false)))], [], []⟩)) ho74 (by intro b; rcases b with _ | _ <;> rfl) ?_ ?_
  ·clear h ho74
   intro z1_0 o h
   change F10_beadrolllaw20_ShardReturns_s1 n a0 y12 z1_0 = some o at h
   unfold F10_beadrolllaw20_ShardReturns_s1 at h
   show AW _ _ _ ⟨[(3, .ptr 3 0 []), (7, .d (.val (.bool y1))), (8, .ptr 8 0 []), (15, .d (.val (.int .i64 z1_0)))], [(3, .av (.d (eGShard a0))), (8, .av (.d (eGShard y12.1)))], []⟩
   refine aw_seq ?_
   refine aw_rs ?_
   refine .m rfl ?_
   refine .v (f_fieldAddr (n := 0) (by rfl) fl74_0 (by decide)) rfl (.c rfl .nil) .nil ?_
   refine .l 3 (0 + 0) [0] (.d (eGShard a0)) (.d (eL72 a0.Lines)) ty72 ?_
   refine .v (f_lenD (n := (a0.Lines).length) (by rfl) sl72 rfl (by simp)) rfl (.c rfl .nil) .nil ?_
   refine .b rfl rfl rfl ?_
   refine .nil (aq_then ?_)
   refine aw_cond rfl (fun hc50 => ?_) (fun hc50 => ?_)
   ·replace h := ite_t hc50 h
    refine aw_skip ?_
    refine aq_then ?_
    refine aw_seq ?_
    refine aw_block ?_
    refine aw_rs ?_
    refine .a rfl ?_
    refine .nil (aq_then ?_)
    refine aw_block ?_
    refine aw_weak (s' := ⟨[(3, .ptr 3 0 []), (7, .d (.val (.bool y1))), (8, .ptr 8 0 []), (15, .d (.val (.int .i64 z1_0))), (16, .d (.val (.int .i64 (0 : Int))))], [(3, .av (.d (eGShard a0))), (8, .av (.d (eGShard y12.1)))], []⟩) id hb0 (.keep rfl (.keep rfl (.keep rfl (.keep rfl (.keep rfl .nil))))) (.keep rfl (.keep rfl .nil)) rfl (by rfl) ?_
    obtain ⟨o71, ho72, h⟩ := bind_some h
    refine aw_loopX (σ := Int) (fun z => ⟨[(3, .ptr 3 0 []), (7, .d (.val (.bool y1))), (8, .ptr 8 0 []), (15, .d (.val (.int .i64 z1_0))), (16, .d (.val (.int .i64 z)))], [(3, .av (.d (eGShard a0))), (8, .av (.d (eGShard y12.1)))], []⟩) (Sum.elim (fun _ => .exit 4) (fun _ => .ret)) (Sum.elim (fun j71 => ⟨[(3, .ptr 3 0 []), (7, .d (.val (.bool y1))), (8, .ptr 8 0 []), (15, .d (.val (.int .i64 z1_0)))], [(3, .av (.d (eGShard a0))), (8, .av (.d (eGShard y12.1)))], []⟩) (fun j71 => ⟨[(6, .d (.val (.bool false)))], [], []⟩)) ho72 (by intro b; rcases b with _ | _ <;> rfl) ?_ ?_
    ·clear h ho72
     intro z2_0 o h
     change F10_beadrolllaw20_ShardReturns_s2 n a0 y12 z1_0 z2_0 = some o at h
     unfold F10_beadrolllaw20_ShardReturns_s2 at h
     show AW _ _ _ ⟨[(3, .ptr 3 0 []), (7, .d (.val (.bool y1))), (8, .ptr 8 0 []), (15, .d (.val (.int .i64 z1_0))), (16, .d (.val (.int .i64 z2_0)))], [(3, .av (.d (eGShard a0))), (8, .av (.d (eGShard y12.1)))], []⟩
     refine aw_seq ?_
     refine aw_rs ?_
     refine .m rfl ?_
     refine .v (f_fieldAddr (n := 0) (by rfl) fl74_0 (by decide)) rfl (.c rfl .nil) .nil ?_
     refine .l 3 (0 + 0) [0] (.d (eGShard a0)) (.d (eL72 a0.Lines)) ty72 ?_
     refine .m rfl ?_
     obtain ⟨x51, hx52, h⟩ := bind_some h
     obtain ⟨hx53, hx52⟩ := rd_some hx52
     refine .v (f_indexS (by rfl) sl72 hx53 (rd_map _ hx52)) rfl (.c rfl (.c rfl .nil)) .nil ?_
     refine .v (f_fieldAddrR (by rfl) fl26_1 (by decide) rfl) rfl (.c rfl .nil) .nil ?_
     refine .v (f_loadR (z := (eL24 x51.Txs)) (by rfl) ty24) rfl (.c rfl .nil) .nil ?_
     refine .v (f_lenD (n := (x51.Txs).length) (by rfl) sl24 rfl (by simp)) rfl (.c rfl .nil) .nil ?_
     refine .b rfl rfl rfl ?_
     refine .nil (aq_then ?_)
     refine aw_cond rfl (fun hc54 => ?_) (fun hc54 => ?_)
     ·replace h := ite_t hc54 h
      refine aw_skip ?_
      refine aq_then ?_
      refine aw_seq ?_
      refine aw_block ?_
      refine aw_rs ?_
      refine .v (f_fieldAddr (n := 0) (by rfl) fl74_0 (by decide)) rfl (.c rfl .nil) .nil ?_
      refine .l 3 (0 + 0) [0] (.d (eGShard a0)) (.d (eL72 a0.Lines)) ty72 ?_
      refine .m rfl ?_
      obtain ⟨x55, hx56, h⟩ := bind_some h
      obtain ⟨hx57, hx56⟩ := rd_some hx56
      refine .v (f_indexS (by rfl) sl72 hx57 (rd_map _ hx56)) rfl (.c rfl (.c rfl .nil)) .nil ?_
      refine .v (f_fieldAddrR (by rfl) fl26_1 (by decide) rfl) rfl (.c rfl .nil) .nil ?_
      refine .v (f_loadR (z := (eL24 x55.Txs)) (by rfl) ty24) rfl (.c rfl .nil) .nil ?_
      refine .m rfl ?_
      obtain ⟨x58, hx59, h⟩ := bind_some h
      obtain ⟨hx60, hx59⟩ := rd_some hx59
      refine .v (f_indexS (by rfl) sl24 hx60 (rd_map _ hx59)) rfl (.c rfl (.c rfl .nil)) .nil ?_
      refine .v (f_loadR (z := (eGTx x58)) (by rfl) ty36) rfl (.c rfl .nil) .nil ?_
      refine .n (f_alloc 17 (by rfl) zr36) rfl .nil rfl ?_
      refine .s (f_store (n := 0) (o := 17) (off := 0) (p := []) (c := .d (eGTx (⟨(List.replicate 32 (0 : Int)), (List.replicate 32 (0 : Int)), (0 : Int), (0 : Int), (0 : Int), (List.replicate 32 (0 : Int))⟩ : GTx))) (old := .d (eGTx (⟨(List.replicate 32 (0 : Int)), (List.replicate 32 (0 : Int)), (0 : Int), (0 : Int), (0 : Int), (List.replicate 32 (0 : Int))⟩ : GTx))) (z := .d (eGTx x58)) (c' := .d (eGTx x58)) rfl rfl (by rfl) ty36 (by rfl)) rfl (.c rfl (.c rfl .nil)) (.cons rfl .nil) ?_
      refine .nil (aq_then ?_)
      refine aw_rds ?_
      refine .v (f_load (n := 0) (o := 8) (off := 0) (p := []) (c := .d (eGShard y12.1)) (z := .d (eGShard y12.1)) (by rfl) rfl ty74 (by rfl)) rfl (.c rfl .nil) (.cons rfl .nil) ?_
      refine .v (f_fieldAddr (n := 0) (by rfl) fl74_0 (by decide)) rfl (.c rfl .nil) .nil ?_
      refine .v (f_load (n := 0) (o := 3) (off := (0 + 0)) (p := [0]) (c := .d (eGShard a0)) (z := .d (eL72 a0.Lines)) (by rfl) rfl ty72 (by rfl)) rfl (.c rfl .nil) (.cons rfl .nil) ?_
      refine .v (f_move (by rfl)) rfl (.c rfl .nil) .nil ?_
      obtain ⟨x61, hx62, h⟩ := bind_some h
      obtain ⟨hx63, hx62⟩ := rd_some hx62
      refine .v (f_indexS (by rfl) sl72 hx63 (rd_map _ hx62)) rfl (.c rfl (.c rfl .nil)) .nil ?_
      refine .v (f_fieldAddrR (by rfl) fl26_0 (by decide) rfl) rfl (.c rfl .nil) .nil ?_
      refine .v (f_loadR (z := (eA22 x61.From)) (by rfl) ty23) rfl (.c rfl .nil) .nil ?_
      refine .v (f_fieldAddr (n := 64) (by rfl) fl36_2 (by decide)) rfl (.c rfl .nil) .nil ?_
      refine .v (f_load (n := 0) (o := 17) (off := (0 + 64)) (p := [2]) (c := .d (eGTx x58)) (z := .d (.val (.int .u64 x58.Nonce))) (by rfl) rfl ty27 (by rfl)) rfl (.c rfl .nil) (.cons rfl .nil) ?_
      obtain ⟨y64, hy65, h⟩ := bind_some h
      refine .v (f_callP hgl (by rfl) en51 rfl (by rfl) (by rfl) (by rfl) (F51_beadrolllaw20_find_ok hy65)) rfl (.c rfl (.c rfl (.c rfl .nil))) .nil ?_
      refine .v (f_move (by rfl)) rfl (.c rfl .nil) .nil ?_
      refine .v (f_extract (by rfl) rfl) rfl (.c rfl .nil) .nil ?_
      refine .v (f_extract (by rfl) rfl) rfl (.c rfl .nil) .nil ?_
      refine .n (f_alloc 18 (by rfl) zr36) rfl .nil rfl ?_
      refine .s (f_store (n := 0) (o := 18) (off := 0) (p := []) (c := .d (eGTx (⟨(List.replicate 32 (0 : Int)), (List.replicate 32 (0 : Int)), (0 : Int), (0 : Int), (0 : Int), (List.replicate 32 (0 : Int))⟩ : GTx))) (old := .d (eGTx (⟨(List.replicate 32 (0 : Int)), (List.replicate 32 (0 : Int)), (0 : Int), (0 : Int), (0 : Int), (List.replicate 32 (0 : Int))⟩ : GTx))) (z := .d (eGTx y64.1)) (c' := .d (eGTx y64.1)) rfl rfl (by rfl) ty36 (by rfl)) rfl (.c rfl (.c rfl .nil)) (.cons rfl .nil) ?_
      refine .v (f_assign (by rfl)) rfl (.c rfl .nil) .nil ?_
      refine .nil (by kernel_rfl) ?_
      refine aw_seq ?_
      obtain ⟨o68, ho70, h⟩ := bind_some h
      refine aw_join (.normal) ⟨[(3, .ptr 3 0 []), (7, .d (.val (.bool y1))), (8, .ptr 8 0 []), (15, .d (.val (.int .i64 z1_0))), (16, .d (.val (.int .i64 z2_0))), (163, .d (.val (.bool o68)))], [(3, .av (.d (eGShard a0))), (8, .av (.d (eGShard y12.1)))], []⟩ ?_ ?_
      ·replace h := ho70
       refine aw_r ?_
       refine .m rfl ?_
       refine .v (f_not (by rfl)) rfl (.c rfl .nil) .nil ?_
       refine .m rfl ?_
       rcases Bool.eq_false_or_eq_true (!y64.2) with hc66 | hc66
       ·replace h := ite_t hc66 h
        refine .off rfl rfl rfl hc66 rfl (by rfl) ?_
        refine .off rfl rfl rfl hc66 rfl (by rfl) ?_
        refine .off rfl rfl rfl hc66 rfl (by rfl) ?_
        refine .off rfl rfl rfl hc66 rfl (by rfl) ?_
        refine .offu rfl rfl rfl rfl (by rfl) ?_
        refine .offu rfl rfl rfl rfl (by rfl) ?_
        refine .offu rfl rfl rfl rfl (by rfl) ?_
        refine .offu rfl rfl rfl rfl (by rfl) ?_
        refine .offu rfl rfl rfl rfl (by rfl) ?_
        refine .off rfl rfl rfl hc66 rfl (by rfl) ?_
        refine .v (f_pick_true (by rfl) hc66) rfl (.c rfl (.c rfl .nil)) .nil ?_
        refine .nil ?_
        obtain rfl := Option.some.inj h
        refine aq_weak (s' := ⟨[(3, .ptr 3 0 []), (7, .d (.val (.bool y1))), (8, .ptr 8 0 []), (15, .d (.val (.int .i64 z1_0))), (16, .d (.val (.int .i64 z2_0))), (163, .d (.val (.bool true)))], [(3, .av (.d (eGShard a0))), (8, .av (.d (eGShard y12.1)))], []⟩) id hb0 (.keep rfl (.keep rfl (.keep rfl (.keep rfl (.keep rfl (.keep rfl .nil)))))) (.keep rfl (.keep rfl .nil)) rfl (by rfl) ?_
        exact jq
       replace h := ite_f hc66 h
       refine .gv (f_load (n := 0) (o := 18) (off := 0) (p := []) (c := .d (eGTx y64.1)) (z := .d (eGTx y64.1)) (by rfl) rfl ty36 (by rfl)) rfl rfl rfl hc66 (.c rfl .nil) (.cons rfl .nil) ?_
       refine .gv (f_load (n := 0) (o := 17) (off := 0) (p := []) (c := .d (eGTx x58)) (z := .d (eGTx x58)) (by rfl) rfl ty36 (by rfl)) rfl rfl rfl hc66 (.c rfl .nil) (.cons rfl .nil) ?_
       refine .gv (f_neqT (by rfl) (fit36 _) (fit36 _) (by rfl) (by rfl) gd36 (eq_eGTx _ _)) rfl rfl rfl hc66 (.c rfl (.c rfl .nil)) .nil ?_
       refine .gv (f_move (by rfl)) rfl rfl rfl hc66 (.c rfl .nil) .nil ?_
       rcases Bool.eq_false_or_eq_true (!(decide (y64.1 = x58))) with hc67 | hc67
       ·replace h := ite_t hc67 h
        refine .gv (f_fieldAddr (n := 66) (by rfl) fl36_4 (by decide)) rfl rfl rfl hc67 (.c rfl .nil) .nil ?_
        refine .gv (f_load (n := 0) (o := 18) (off := (0 + 66)) (p := [4]) (c := .d (eGTx y64.1)) (z := .d (.val (.int .u64 y64.1.Fee))) (by rfl) rfl ty27 (by rfl)) rfl rfl rfl hc67 (.c rfl .nil) (.cons rfl .nil) ?_
        refine .gv (f_fieldAddr (n := 66) (by rfl) fl36_4 (by decide)) rfl rfl rfl hc67 (.c rfl .nil) .nil ?_
        refine .gv (f_load (n := 0) (o := 17) (off := (0 + 66)) (p := [4]) (c := .d (eGTx x58)) (z := .d (.val (.int .u64 x58.Fee))) (by rfl) rfl ty27 (by rfl)) rfl rfl rfl hc67 (.c rfl .nil) (.cons rfl .nil) ?_
        refine .gv (f_binI (by rfl) rfl (by rfl)) rfl rfl rfl hc67 (.c rfl (.c rfl .nil)) .nil ?_
        refine .gv (f_pick_true (by rfl) hc67) rfl rfl rfl hc66 (.c rfl (.c rfl .nil)) .nil ?_
        refine .v (f_pick_false (by rfl) hc66) rfl (.c rfl (.c rfl .nil)) .nil ?_
        refine .nil ?_
        obtain rfl := Option.some.inj h
        refine aq_weak (s' := ⟨[(3, .ptr 3 0 []), (7, .d (.val (.bool y1))), (8, .ptr 8 0 []), (15, .d (.val (.int .i64 z1_0))), (16, .d (.val (.int .i64 z2_0))), (163, .d (.val (.bool (decide (y64.1.Fee ≤ x58.Fee)))))], [(3, .av (.d (eGShard a0))), (8, .av (.d (eGShard y12.1)))], []⟩) id hb0 (.keep rfl (.keep rfl (.keep rfl (.keep rfl (.keep rfl (.keep rfl .nil)))))) (.keep rfl (.keep rfl .nil)) rfl (by rfl) ?_
        exact jq
       replace h := ite_f hc67 h
       refine .off rfl rfl rfl hc67 rfl (by rfl) ?_
       refine .off rfl rfl rfl hc67 rfl (by rfl) ?_
       refine .off rfl rfl rfl hc67 rfl (by rfl) ?_
       refine .off rfl rfl rfl hc67 rfl (by rfl) ?_
       refine .off rfl rfl rfl hc67 rfl (by rfl) ?_
       refine .gv (f_pick_false (by rfl) hc67) rfl rfl rfl hc66 (.c rfl (.c rfl .nil)) .nil ?_
       refine .v (f_pick_false (by rfl) hc66) rfl (.c rfl (.c rfl .nil)) .nil ?_
       refine .nil ?_
       obtain rfl := Option.some.inj h
       refine aq_weak (s' := ⟨[(3, .ptr 3 0 []), (7, .d (.val (.bool y1))), (8, .ptr 8 0 []), (15, .d (.val (.int .i64 z1_0))), (16, .d (.val (.int .i64 z2_0))), (163, .d (.val (.bool false)))], [(3, .av (.d (eGShard a0))), (8, .av (.d (eGShard y12.1)))], []⟩) id hb0 (.keep rfl (.keep rfl (.keep rfl (.keep rfl (.keep rfl (.keep rfl .nil)))))) (.keep rfl (.keep rfl .nil)) rfl (by rfl) ?_
       exact jq
      refine aq_then ?_
      refine aw_cond rfl (fun hc69 => ?_) (fun hc69 => ?_)
      ·replace h := ite_t hc69 h
       refine aw_rs ?_
       refine .a rfl ?_
       refine .nil (aq_then ?_)
       refine aw_ret ?_
       refine aq_block_ret ?_
       refine aq_then_ret ?_
       obtain rfl := Option.some.inj h
       refine aq_weak (s' := ⟨[(6, .d (.val (.bool false)))], [], []⟩) id hb0 (.keep rfl .nil) .nil rfl (by rfl) ?_
       exact jq
      replace h := ite_f hc69 h
      refine aw_skip ?_
      refine aq_block ?_
      refine aq_then ?_
      refine aw_r ?_
      refine .m rfl ?_
      refine .b rfl rfl rfl ?_
      refine .a rfl ?_
      refine .nil ?_
      obtain rfl := Option.some.inj h
      refine aq_weak (s' := ⟨[(3, .ptr 3 0 []), (7, .d (.val (.bool y1))), (8, .ptr 8 0 []), (15, .d (.val (.int .i64 z1_0))), (16, .d (.val (.int .i64 (IntKind.i64.wrap (z2_0 + (1 : Int))))))], [(3, .av (.d (eGShard a0))), (8, .av (.d (eGShard y12.1)))], []⟩) id hb0 (.keep rfl (.keep rfl (.keep rfl (.keep rfl (.keep rfl .nil))))) (.keep rfl (.keep rfl .nil)) rfl (by rfl) ?_
      exact jq
     replace h := ite_f hc54 h
     refine aw_exit ?_
     refine aq_then_exit ?_
     obtain rfl := Option.some.inj h
     refine aq_weak (s' := ⟨[(3, .ptr 3 0 []), (7, .d (.val (.bool y1))), (8, .ptr 8 0 []), (15, .d (.val (.int .i64 z1_0)))], [(3, .av (.d (eGShard a0))), (8, .av (.d (eGShard y12.1)))], []⟩) id hb0 (.keep rfl (.keep rfl (.keep rfl (.keep rfl .nil)))) (.keep rfl (.keep rfl .nil)) rfl (by rfl) ?_
     exact jq
    rcases o71 with j71 | j71
    ·replace h := elim_l h
     refine aq_block_exit ?_
     refine aq_block ?_
     refine aq_then ?_
     refine aw_r ?_
     refine .m rfl ?_
     refine .b rfl rfl rfl ?_
     refine .a rfl ?_
     refine .nil ?_
     obtain rfl := Option.some.inj h
     refine aq_weak (s' := ⟨[(3, .ptr 3 0 []), (7, .d (.val (.bool y1))), (8, .ptr 8 0 []), (15, .d (.val (.int .i64 (IntKind.i64.wrap (z1_0 + (1 : Int))))))], [(3, .av (.d (eGShard a0))), (8, .av (.d (eGShard y12.1)))], []⟩) id hb0 (.keep rfl (.keep rfl (.keep rfl (.keep rfl .nil)))) (.keep rfl (.keep rfl .nil)) rfl (by rfl) ?_
     exact jq
    replace h := elim_r h
    refine aq_block_ret ?_
    refine aq_block_ret ?_
    refine aq_then_ret ?_
    obtain rfl := Option.some.inj h
    refine aq_weak (s' := ⟨[(6, .d (.val (.bool false)))], [], []⟩) id hb0 (.keep rfl .nil) .nil rfl (by rfl) ?_
    exact jq
   replace h := ite_f hc50 h
   refine aw_exit ?_
   refine aq_then_exit ?_
   obtain rfl := Option.some.inj h
   refine aq_weak (s' := ⟨[(7, .d (.val (.bool y1))), (8, .ptr 8 0 [])], [(8, .av (.d (eGShard y12.1)))], []⟩) id hb0 (.keep rfl (.keep rfl .nil)) (.keep rfl .nil) rfl (by rfl) ?_
   exact jq
  rcases o73 with j73 | j73
  ·replace h := elim_l h
   refine aq_block_exit ?_
   refine aq_then ?_
   refine aw_seq ?_
   obtain ⟨o78, ho79, h⟩ := bind_some h
   refine aw_join (.normal) ⟨[(6, .d (.val (.bool o78)))], [], []⟩ ?_ ?_
   ·replace h := ho79
    refine aw_r ?_
    refine .m rfl ?_
    refine .m rfl ?_
    rcases Bool.eq_false_or_eq_true y1 with hc75 | hc75
    ·replace h := ite_t hc75 h
     refine .gv (f_load (n := 0) (o := 8) (off := 0) (p := []) (c := .d (eGShard y12.1)) (z := .d (eGShard y12.1)) (by rfl) rfl ty74 (by rfl)) rfl rfl rfl hc75 (.c rfl .nil) (.cons rfl .nil) ?_
     obtain ⟨y76, hy77, h⟩ := bind_some h
     refine .gv (f_callP hgl (by rfl) en52 rfl (by rfl) (by rfl) (by rfl) (F52_shard_Check_ok hy77)) rfl rfl rfl hc75 (.c rfl .nil) .nil ?_
     refine .gv (f_binI (by rfl) rfl (by rfl)) rfl rfl rfl hc75 (.c rfl (.c rfl .nil)) .nil ?_
     refine .v (f_pick_true (by rfl) hc75) rfl (.c rfl (.c rfl .nil)) .nil ?_
     refine .a rfl ?_
     refine .nil ?_
     obtain rfl := Option.some.inj h
     refine aq_weak (s' := ⟨[(6, .d (.val (.bool (y76 == (0 : Int)))))], [], []⟩) id hb0 (.keep rfl .nil) .nil rfl (by rfl) ?_
     exact jq
    replace h := ite_f hc75 h
    refine .off rfl rfl rfl hc75 rfl (by rfl) ?_
    refine .off rfl rfl rfl hc75 rfl (by rfl) ?_
    refine .off rfl rfl rfl hc75 rfl (by rfl) ?_
    refine .v (f_pick_false (by rfl) hc75) rfl (.c rfl (.c rfl .nil)) .nil ?_
    refine .a rfl ?_
    refine .nil ?_
    obtain rfl := Option.some.inj h
    refine aq_weak (s' := ⟨[(6, .d (.val (.bool false)))], [], []⟩) id hb0 (.keep rfl .nil) .nil rfl (by rfl) ?_
    exact jq
   refine aq_then ?_
   refine aw_ret ?_
   obtain rfl := Option.some.inj h
   exact aq_finp hb0 rfl (.tmp rfl (by rfl) .nil) (by rfl) rfl ⟨rfl, rfl⟩
  replace h := elim_r h
  refine aq_block_ret ?_
  refine aq_then_ret ?_
  obtain rfl := Option.some.inj h
  exact aq_finp hb0 rfl (.tmp rfl (by rfl) .nil) (by rfl) rfl ⟨rfl, rfl⟩
 replace h := elim_r h
 refine aq_block_ret ?_
 refine aq_then_ret ?_
 obtain rfl := Option.some.inj h
 exact aq_finp hb0 rfl (.tmp rfl (by rfl) .nil) (by rfl) rfl ⟨rfl, rfl⟩
end Go.Proofs.YtonfljoibcnlgaaDoor
