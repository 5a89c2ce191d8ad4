/-
  PRINTED by wip/pr3.py: for each Go function a Lean function with the same answers, and the proof.
-/
import Derived.Test.YtonfljoibcnlgaaDoorXh
namespace Go.Proofs.YtonfljoibcnlgaaDoor
open Bd
set_option maxRecDepth 10000


theorem pl26_1 : placeB Tryd.prog 26 1 = some (32, 1) := by kernel_rfl
theorem en76 : enterB Tryd.prog 76 = true := by kernel_rfl
theorem en47 : enterB Tryd.prog 47 = true := by kernel_rfl
theorem pl74_0 : placeB Tryd.prog 74 0 = some (0, 1) := by kernel_rfl
theorem ag74 : aggB Tryd.prog 74 = true := by kernel_rfl
theorem en100 : enterB Tryd.prog 100 = true := by kernel_rfl
theorem en96 : enterB Tryd.prog 96 = true := by kernel_rfl
theorem en18 : enterB Tryd.prog 18 = true := by kernel_rfl
theorem en61 : enterB Tryd.prog 61 = true := by kernel_rfl
theorem ty3 : tyB Tryd.prog 3 = some (false, 1) := by kernel_rfl
theorem en23 : enterB Tryd.prog 23 = true := by kernel_rfl
theorem en80 : enterB Tryd.prog 80 = true := by kernel_rfl
theorem en112 : enterB Tryd.prog 112 = true := by kernel_rfl
theorem en79 : enterB Tryd.prog 79 = true := by kernel_rfl
theorem en52 : enterB Tryd.prog 52 = true := by kernel_rfl
theorem zr3 : ∃ zv, zeroB Tryd.prog 3 = some zv ∧ ∀ F μ w, RA F μ w (.d (eI_i64 (0 : Int))) zv.cells.toList := zero_mk' (by kernel_rfl) (by kernel_rfl)
theorem un4 : Tryd.prog.underlying 4 = some (.bool) := by kernel_rfl
theorem en32 : enterB Tryd.prog 32 = true := by kernel_rfl
theorem en31 : enterB Tryd.prog 31 = true := by kernel_rfl
theorem en30 : enterB Tryd.prog 30 = true := by kernel_rfl
theorem en29 : enterB Tryd.prog 29 = true := by kernel_rfl
theorem en28 : enterB Tryd.prog 28 = true := by kernel_rfl
theorem en33 : enterB Tryd.prog 33 = true := by kernel_rfl
theorem en26 : enterB Tryd.prog 26 = true := by kernel_rfl
theorem en25 : enterB Tryd.prog 25 = true := by kernel_rfl
theorem en24 : enterB Tryd.prog 24 = true := by kernel_rfl
theorem en22 : enterB Tryd.prog 22 = true := by kernel_rfl

/- 47: beadroll/queue.Twin -/
def F47_queue_Twin (n : Nat) (a0 : GLine) : Option ((List Int) × List GTx) :=
  ((F76_Clone n a0.Txs).bind fun (y1 : List GTx) => some (a0.From, y1))
theorem F47_queue_Twin_ok {n : Nat} {a0 : GLine} {r : (List Int) × List GTx} (h : F47_queue_Twin n a0 = some r) :
    ACall Tryd.prog GS 47 [.d (eGLine a0)] [] (fun r' hp' => r' = .st [.d (eA22 r.1), .slc 1082 0 ((r.2).length) 99] ∧ hp' = [(2, .av (.st [.d (eA22 r.1), .slc 1082 0 ((r.2).length) 99])), (1082, .av (.d (.arr 99 ((r.2).length) ((r.2).map eGTx))))]) := by
 refine acall_of_body mixed Tryd.func47 rfl (by rfl) ?_
 intro C hro hgl hb0
 unfold F47_queue_Twin at h
 refine aw_rs ?_
 refine .n (f_box 1 (by rfl) (by rfl)) rfl (.c rfl .nil) rfl ?_
 refine .n (f_alloc 2 (by rfl) zrv26) rfl .nil rfl ?_
 refine .nil (aq_then ?_)
 refine aw_rds ?_
 refine .v (f_fieldAddr (n := 0) (by rfl) fl26_0 (by decide)) rfl (.c rfl .nil) .nil ?_
 refine .v (f_load (n := 0) (o := 1) (off := (0 + 0)) (p := [0]) (c := .d (eGLine a0)) (z := .d (eA22 a0.From)) (by rfl) rfl ty23 (by rfl)) rfl (.c rfl .nil) (.cons rfl .nil) ?_
 refine .v (f_fieldAddr (n := 32) (by rfl) fl26_1 (by decide)) rfl (.c rfl .nil) .nil ?_
 refine .v (f_load (n := 0) (o := 1) (off := (0 + 32)) (p := [1]) (c := .d (eGLine a0)) (z := .d (eL24 a0.Txs)) (by rfl) rfl ty24 (by rfl)) rfl (.c rfl .nil) (.cons rfl .nil) ?_
 obtain ⟨y1, hy2, h⟩ := bind_some h
 refine .w (f_callG (xs := [.d (eL24 a0.Txs)]) (r := .slc 1082 0 ((y1).length) 99) (hw := [(1082, .av (.d (.arr 99 ((y1).length) ((y1).map eGTx))))]) (fun i => bif Nat.beq i 0 then 1082 else i) [] hgl (by rfl) (cal_f en76) rfl (by rfl) (by rfl) (by rfl) (by rfl) (.cons (.same _) .nil) rfl rfl rfl rfl (F76_Clone_ok hy2)) rfl (.c rfl .nil) .nil (.cons rfl .nil) ?_
 refine .v (f_build (xs := [(0, .d (eA22 a0.From)), (1, .slc 1082 0 ((y1).length) 99)]) (z' := .st [.d (eA22 a0.From), .slc 1082 0 ((y1).length) 99]) (by rfl) zrv26 ag26 rfl (by rfl) ⟨_, _, _, rfl, pl26_0, rfl, rfl, ⟨_, _, _, rfl, pl26_1, rfl, rfl, trivial⟩⟩ (by rfl) (by rfl)) rfl (.c rfl (.c rfl .nil)) .nil ?_
 refine .s (f_store (n := 0) (o := 2) (off := 0) (p := []) (c := .st [.d (eA22 (List.replicate 32 (0 : Int))), .d (.val (.slice none 0 0))]) (old := .st [.d (eA22 (List.replicate 32 (0 : Int))), .d (.val (.slice none 0 0))]) (z := .st [.d (eA22 a0.From), .slc 1082 0 ((y1).length) 99]) (c' := .st [.d (eA22 a0.From), .slc 1082 0 ((y1).length) 99]) rfl rfl (by rfl) ty26 (by rfl)) rfl (.c rfl (.c rfl .nil)) (.cons rfl .nil) ?_
 refine .nil (by kernel_rfl) ?_
 refine aw_ret ?_
 obtain rfl := Option.some.inj h
 refine aq_weak (s' := ⟨[(2, .ptr 2 0 [])], [(2, .av (.st [.d (eA22 a0.From), .slc 1082 0 ((y1).length) 99])), (1082, .av (.d (.arr 99 ((y1).length) ((y1).map eGTx))))], []⟩) id hb0 (.keep rfl .nil) (.keep rfl (.keep rfl .nil)) rfl (by rfl) ?_
 exact aq_fin1 (.cell rfl rfl ty26 (by rfl) .nil) rfl ⟨rfl, rfl⟩

/- 61: beadroll/shard.Twin -/
def F61_shard_Twin_s0 (n : Nat) (y1 : List GLine) (z0_0 : Int) (z0_1 : List GLine) : Option ((Int × List GLine) ⊕ (List GLine)) :=
  (if (decide (z0_0 < ((y1).length : Int))) = true then ((rd z0_1 z0_0).bind fun (x4 : GLine) => ((F47_queue_Twin n x4).bind fun (y7 : (List Int) × List GTx) => ((rd z0_1 z0_0).bind fun (x9 : GLine) => some (.inl ((IntKind.i64.wrap (z0_0 + (1 : Int))), (z0_1.set (0 + (z0_0).toNat) (⟨y7.1, y7.2⟩ : GLine))))))) else some (.inr z0_1))
def F61_shard_Twin (n : Nat) (a0 : GShard) : Option (List GLine) :=
  ((F100_Clone n a0.Lines).bind fun (y1 : List GLine) => ((loopF (fun (z : Int × List GLine) => F61_shard_Twin_s0 n y1 z.1 z.2) n ((0 : Int), y1)).bind fun (o12 : List GLine) => some o12))
theorem F61_shard_Twin_ok {n : Nat} {a0 : GShard} {r : List GLine} (h : F61_shard_Twin n a0 = some r) :
    ACall Tryd.prog GS 61 [.d (eGShard a0)] [] (fun r' hp' => r' = .st [.slc 1081 0 ((r).length) 33] ∧ hp' = [(2, .av (.st [.slc 1081 0 ((r).length) 33])), (1081, .av (.d (.arr 33 ((r).length) ((r).map eGLine))))]) := by
 refine acall_of_body mixed Tryd.func61 rfl (by rfl) ?_
 intro C hro hgl hb0
 unfold F61_shard_Twin at h
 refine aw_rs ?_
 refine .n (f_box 1 (by rfl) (by rfl)) rfl (.c rfl .nil) rfl ?_
 refine .n (f_alloc 2 (by rfl) zrv74) rfl .nil rfl ?_
 refine .nil (aq_then ?_)
 refine aw_rs ?_
 refine .v (f_fieldAddr (n := 0) (by rfl) fl74_0 (by decide)) rfl (.c rfl .nil) .nil ?_
 refine .v (f_load (n := 0) (o := 1) (off := (0 + 0)) (p := [0]) (c := .d (eGShard a0)) (z := .d (eL72 a0.Lines)) (by rfl) rfl ty72 (by rfl)) rfl (.c rfl .nil) (.cons rfl .nil) ?_
 obtain ⟨y1, hy2, h⟩ := bind_some h
 refine .w (f_callG (xs := [.d (eL72 a0.Lines)]) (r := .slc 1081 0 ((y1).length) 33) (hw := [(1081, .av (.d (.arr 33 ((y1).length) ((y1).map eGLine))))]) (fun i => bif Nat.beq i 0 then 1081 else i) [] hgl (by rfl) (cal_f en100) rfl (by rfl) (by rfl) (by rfl) (by rfl) (.cons (.same _) .nil) rfl rfl rfl rfl (F100_Clone_ok hy2)) rfl (.c rfl .nil) .nil (.cons rfl .nil) ?_
 refine .v (f_build (xs := [(0, .slc 1081 0 ((y1).length) 33)]) (z' := .st [.slc 1081 0 ((y1).length) 33]) (by rfl) zrv74 ag74 rfl (by rfl) ⟨_, _, _, rfl, pl74_0, rfl, rfl, trivial⟩ (by rfl) (by rfl)) rfl (.c rfl .nil) .nil ?_
 refine .n (f_alloc 3 (by rfl) zrv74) rfl .nil rfl ?_
 refine .s (f_store (n := 0) (o := 3) (off := 0) (p := []) (c := .st [.d (.val (.slice none 0 0))]) (old := .st [.d (.val (.slice none 0 0))]) (z := .st [.slc 1081 0 ((y1).length) 33]) (c' := .st [.slc 1081 0 ((y1).length) 33]) rfl rfl (by rfl) ty74 (by rfl)) rfl (.c rfl (.c rfl .nil)) (.cons rfl .nil) ?_
 refine .nil (aq_then ?_)
 refine aw_seq ?_
 refine aw_rs ?_
 refine .v (f_fieldAddr (n := 0) (by rfl) fl74_0 (by decide)) rfl (.c rfl .nil) .nil ?_
 refine .v (f_load (n := 0) (o := 3) (off := (0 + 0)) (p := [0]) (c := .st [.slc 1081 0 ((y1).length) 33]) (z := .slc 1081 0 ((y1).length) 33) (by rfl) rfl ty72 (by rfl)) rfl (.c rfl .nil) (.cons rfl .nil) ?_
 refine .v (f_lenO (by rfl) sl72 rfl) rfl (.c rfl .nil) .nil ?_
 refine .mv rfl (by rfl) ?_
 refine .nil (aq_then ?_)
 refine aw_block ?_
 refine aw_weak (s' := ⟨[(2, .ptr 2 0 []), (3, .ptr 3 0 []), (11, .d (.val (.int .i64 ((y1).length : Int)))), (12, .d (.val (.int .i64 (0 : Int))))], [(2, .av (.st [.d (.val (.slice none 0 0))])), (3, .av (.st [.slc 1081 0 ((y1).length) 33])), (1081, .av (.d (.arr 33 ((y1).length) ((y1).map eGLine))))], []⟩) id hb0 (.keep rfl (.keep rfl (.keep rfl (.keep rfl .nil)))) (.keep rfl (.keep rfl (.keep rfl .nil))) rfl (by rfl) ?_
 obtain ⟨o12, ho13, h⟩ := bind_some h
 refine aw_loopX (σ := Int × List GLine) (fun z => ⟨[(2, .ptr 2 0 []), (3, .ptr 3 0 []), (11, .d (.val (.int .i64 ((y1).length : Int)))), (12, .d (.val (.int .i64 z.1)))], [(2, .av (.st [.d (.val (.slice none 0 0))])), (3, .av (.st [.slc 1081 0 ((z.2).length) 33])), (1081, .av (.d (.arr 33 ((z.2).length) ((z.2).map eGLine))))], []⟩) (fun _ => (.exit 0)) (fun (o12 : List GLine) => ⟨[(2, .ptr 2 0 []), (3, .ptr 3 0 [])], [(2, .av (.st [.d (.val (.slice none 0 0))])), (3, .av (.st [.slc 1081 0 ((o12).length) 33])), (1081, .av (.d (.arr 33 ((o12).length) ((o12).map eGLine))))], []⟩) ho13 (fun _ => rfl) ?_ ?_
 · clear h ho13
   rintro ⟨z0_0, z0_1⟩ o h
   change F61_shard_Twin_s0 n y1 z0_0 z0_1 = some o at h
   unfold F61_shard_Twin_s0 at h
   show AW _ _ _ ⟨[(2, .ptr 2 0 []), (3, .ptr 3 0 []), (11, .d (.val (.int .i64 ((y1).length : Int)))), (12, .d (.val (.int .i64 z0_0)))], [(2, .av (.st [.d (.val (.slice none 0 0))])), (3, .av (.st [.slc 1081 0 ((z0_1).length) 33])), (1081, .av (.d (.arr 33 ((z0_1).length) ((z0_1).map eGLine))))], []⟩
   refine aw_rs ?_
   refine .v (f_binI (by rfl) rfl (by rfl)) rfl (.c rfl (.c rfl .nil)) .nil ?_
   refine .nil (aq_then ?_)
   refine aw_seq ?_
   refine aw_cond rfl (fun hc3 => ?_) (fun hc3 => ?_)
   · replace h := ite_t hc3 h
     refine aw_skip ?_
     refine aq_then ?_
     refine aw_seq ?_
     refine aw_block ?_
     refine aw_rs ?_
     refine .mv rfl (by rfl) ?_
     refine .as rfl (by rfl) ?_
     refine .nil (aq_then ?_)
     refine aw_rd ?_
     refine .v (f_fieldAddr (n := 0) (by rfl) fl74_0 (by decide)) rfl (.c rfl .nil) .nil ?_
     refine .v (f_load (n := 0) (o := 3) (off := (0 + 0)) (p := [0]) (c := .st [.slc 1081 0 ((z0_1).length) 33]) (z := .slc 1081 0 ((z0_1).length) 33) (by rfl) rfl ty72 (by rfl)) rfl (.c rfl .nil) (.cons rfl .nil) ?_
     refine .v (f_move (by rfl)) rfl (.c rfl .nil) .nil ?_
     refine .v (f_fieldAddr (n := 0) (by rfl) fl74_0 (by decide)) rfl (.c rfl .nil) .nil ?_
     refine .v (f_load (n := 0) (o := 3) (off := (0 + 0)) (p := [0]) (c := .st [.slc 1081 0 ((z0_1).length) 33]) (z := .slc 1081 0 ((z0_1).length) 33) (by rfl) rfl ty72 (by rfl)) rfl (.c rfl .nil) (.cons rfl .nil) ?_
     refine .v (f_move (by rfl)) rfl (.c rfl .nil) .nil ?_
     obtain ⟨x4, hx5, h⟩ := bind_some h
     obtain ⟨hx6, hx5⟩ := rd_some hx5
     refine .v (f_indexSW (by rfl) sl72 hx6 (rd_map _ hx5)) rfl (.c rfl (.c rfl .nil)) (.cons rfl .nil) ?_
     refine .v (f_load (n := 0) (o := 1081) (off := ((0 + (z0_0).toNat) * 33)) (p := [0 + (z0_0).toNat]) (c := .d (.arr 33 ((z0_1).length) ((z0_1).map eGLine))) (z := .d (eGLine x4)) (by rfl) (at_map _ (by simpa using hx5) rfl) ty26 (by rfl)) rfl (.c rfl .nil) (.cons rfl .nil) ?_
     obtain ⟨y7, hy8, h⟩ := bind_some h
     refine .v (f_callP hgl (by rfl) en47 rfl (by rfl) (by rfl) (by rfl) (acall_frz (y := (eGLine (⟨y7.1, y7.2⟩ : GLine))) [(1082, (.arr 99 ((y7.2).length) ((y7.2).map eGTx)))] (.cons rfl .nil) (.st (.cons (.same _) (.cons (.whole (.head _)) .nil))) (F47_queue_Twin_ok hy8))) rfl (.c rfl .nil) .nil ?_
     obtain ⟨x9, hx10, h⟩ := bind_some h
     obtain ⟨hx11, hx10⟩ := rd_some hx10
     refine .v (f_indexSW (by rfl) sl72 hx11 (rd_map _ hx10)) rfl (.c rfl (.c rfl .nil)) (.cons rfl .nil) ?_
     refine .s (f_store (n := 0) (o := 1081) (off := ((0 + (z0_0).toNat) * 33)) (p := [0 + (z0_0).toNat]) (c := .d (.arr 33 ((z0_1).length) ((z0_1).map eGLine))) (old := .d (eGLine x9)) (z := .d (eGLine (⟨y7.1, y7.2⟩ : GLine))) (c' := .d (.arr 33 ((z0_1).length) (((z0_1.set (0 + (z0_0).toNat) (⟨y7.1, y7.2⟩ : GLine))).map eGLine))) (at_map _ (by simpa using hx10) rfl) (put_map _ (by simpa using hx10)) (by rfl) ty26 (by rfl)) rfl (.c rfl (.c rfl .nil)) (.cons rfl .nil) ?_
     refine .nil (by kernel_rfl) ?_
     refine aq_block ?_
     refine aq_then ?_
     refine aw_r ?_
     refine .v (f_binI (by rfl) rfl (by rfl)) rfl (.c rfl (.c rfl .nil)) .nil ?_
     refine .mv rfl (by rfl) ?_
     refine .nil ?_
     obtain rfl := Option.some.inj h
     refine aq_weak (s' := ⟨[(2, .ptr 2 0 []), (3, .ptr 3 0 []), (11, .d (.val (.int .i64 ((y1).length : Int)))), (12, .d (.val (.int .i64 (IntKind.i64.wrap (z0_0 + (1 : Int))))))], [(2, .av (.st [.d (.val (.slice none 0 0))])), (3, .av (.st [.slc 1081 0 (((z0_1.set (0 + (z0_0).toNat) (⟨y7.1, y7.2⟩ : GLine))).length) 33])), (1081, .av (.d (.arr 33 (((z0_1.set (0 + (z0_0).toNat) (⟨y7.1, y7.2⟩ : GLine))).length) (((z0_1.set (0 + (z0_0).toNat) (⟨y7.1, y7.2⟩ : GLine))).map eGLine))))], []⟩) id hb0 (.keep rfl (.keep rfl (.keep rfl (.keep rfl .nil)))) (.keep rfl (.keep (by simp only [List.length_set]; rfl) (.keep (by simp only [List.length_set]; rfl) .nil))) rfl (by rfl) ?_
     exact jq
   replace h := ite_f hc3 h
   refine aw_exit ?_
   refine aq_then_exit ?_
   obtain rfl := Option.some.inj h
   refine aq_weak (s' := ⟨[(2, .ptr 2 0 []), (3, .ptr 3 0 [])], [(2, .av (.st [.d (.val (.slice none 0 0))])), (3, .av (.st [.slc 1081 0 ((z0_1).length) 33])), (1081, .av (.d (.arr 33 ((z0_1).length) ((z0_1).map eGLine))))], []⟩) id hb0 (.keep rfl (.keep rfl .nil)) (.keep rfl (.keep rfl (.keep rfl .nil))) rfl (by rfl) ?_
   exact jq
 refine aq_block_exit ?_
 refine aq_then ?_
 refine aw_rs ?_
 refine .v (f_load (n := 0) (o := 3) (off := 0) (p := []) (c := .st [.slc 1081 0 ((o12).length) 33]) (z := .st [.slc 1081 0 ((o12).length) 33]) (by rfl) rfl ty74 (by rfl)) rfl (.c rfl .nil) (.cons rfl .nil) ?_
 refine .s (f_store (n := 0) (o := 2) (off := 0) (p := []) (c := .st [.d (.val (.slice none 0 0))]) (old := .st [.d (.val (.slice none 0 0))]) (z := .st [.slc 1081 0 ((o12).length) 33]) (c' := .st [.slc 1081 0 ((o12).length) 33]) rfl rfl (by rfl) ty74 (by rfl)) rfl (.c rfl (.c rfl .nil)) (.cons rfl .nil) ?_
 refine .nil (aq_then ?_)
 refine aw_ret ?_
 obtain rfl := Option.some.inj h
 refine aq_weak (s' := ⟨[(2, .ptr 2 0 [])], [(2, .av (.st [.slc 1081 0 ((o12).length) 33])), (1081, .av (.d (.arr 33 ((o12).length) ((o12).map eGLine))))], []⟩) id hb0 (.keep rfl .nil) (.keep rfl (.keep rfl .nil)) rfl (by rfl) ?_
 exact aq_fin1 (.cell rfl rfl ty74 (by rfl) .nil) rfl ⟨rfl, rfl⟩

/- 52: beadroll/shard.Check -/
def F52_shard_Check_s0 (n : Nat) (a0 : GShard) (z0_0 : Int) : Option ((Int) ⊕ ((Unit) ⊕ (Unit))) :=
  (if (decide (z0_0 < ((a0.Lines).length : Int))) = true then ((rd a0.Lines z0_0).bind fun (x2 : GLine) => (((if (((x2.Txs).length : Int) == (0 : Int)) = true then some true else ((F18_queue_Check n x2).bind fun (y6 : Int) => (if (y6 != (0 : Int)) = true then some true else (if (decide (z0_0 > (0 : Int))) = true then ((rd a0.Lines (IntKind.i64.wrap (z0_0 - (1 : Int)))).bind fun (x10 : GLine) => ((F96_path_Ahead n x10.From x2.From).bind fun (y13 : Bool) => some (!y13))) else some false))))).bind fun (o15 : Bool) => (if o15 = true then some (.inr (.inr ())) else some (.inl (IntKind.i64.wrap (z0_0 + (1 : Int))))))) else some (.inr (.inl ())))
def F52_shard_Check (n : Nat) (a0 : GShard) : Option (Int) :=
  ((loopF (fun (z : Int) => F52_shard_Check_s0 n a0 z) n (0 : Int)).bind (Sum.elim (fun (j18 : Unit) => some (0 : Int)) (fun (j18 : Unit) => some (8 : Int))))
theorem F52_shard_Check_ok {n : Nat} {a0 : GShard} {r : Int} (h : F52_shard_Check n a0 = some r) :
    ACall Tryd.prog GS 52 [.d (eGShard a0)] [] (fun r' hp' => r' = .d (.val (.int .i64 r)) ∧ hp' = []) := by
 refine acall_of_body mixed Tryd.func52 rfl (by rfl) ?_
 intro C hro hgl hb0
 unfold F52_shard_Check at h
 refine aw_rs ?_
 refine .n (f_box 1 (by rfl) (by rfl)) rfl (.c rfl .nil) rfl ?_
 refine .as rfl (by rfl) ?_
 refine .nil (aq_then ?_)
 refine aw_seq ?_
 refine aw_rs ?_
 refine .v (f_fieldAddr (n := 0) (by rfl) fl74_0 (by decide)) rfl (.c rfl .nil) .nil ?_
 refine .v (f_load (n := 0) (o := 1) (off := (0 + 0)) (p := [0]) (c := .d (eGShard a0)) (z := .d (eL72 a0.Lines)) (by rfl) rfl ty72 (by rfl)) rfl (.c rfl .nil) (.cons rfl .nil) ?_
 refine .v (f_lenD (n := (a0.Lines).length) (by rfl) sl72 rfl (by simp)) rfl (.c rfl .nil) .nil ?_
 refine .mv rfl (by rfl) ?_
 refine .nil (aq_then ?_)
 refine aw_block ?_
 refine aw_weak (s' := ⟨[(1, .ptr 1 0 []), (6, .d (eL72 a0.Lines)), (7, .d (.val (.int .i64 ((a0.Lines).length : Int)))), (8, .d (.val (.int .i64 (0 : Int))))], [(1, .av (.d (eGShard a0)))], []⟩) id hb0 (.keep rfl (.keep rfl (.keep rfl (.keep rfl .nil)))) (.keep rfl .nil) rfl (by rfl) ?_
 obtain ⟨o18, ho19, h⟩ := bind_some h
 refine aw_loopX (σ := Int) (fun z => ⟨[(1, .ptr 1 0 []), (6, .d (eL72 a0.Lines)), (7, .d (.val (.int .i64 ((a0.Lines).length : Int)))), (8, .d (.val (.int .i64 z)))], [(1, .av (.d (eGShard a0)))], []⟩) (Sum.elim (fun _ => .exit 0) (fun _ => .ret)) (Sum.elim (fun j18 => ⟨[], [], []⟩) (fun j18 => ⟨[(2, .d (.val (.int .i64 (8 : Int))))], [], []⟩)) ho19 (by intro b; rcases b with _ | _ <;> rfl) ?_ ?_
 · clear h ho19
   intro z0_0 o h
   change F52_shard_Check_s0 n a0 z0_0 = some o at h
   unfold F52_shard_Check_s0 at h
   show AW _ _ _ ⟨[(1, .ptr 1 0 []), (6, .d (eL72 a0.Lines)), (7, .d (.val (.int .i64 ((a0.Lines).length : Int)))), (8, .d (.val (.int .i64 z0_0)))], [(1, .av (.d (eGShard a0)))], []⟩
   refine aw_rs ?_
   refine .v (f_binI (by rfl) rfl (by rfl)) rfl (.c rfl (.c rfl .nil)) .nil ?_
   refine .nil (aq_then ?_)
   refine aw_seq ?_
   refine aw_cond rfl (fun hc1 => ?_) (fun hc1 => ?_)
   · replace h := ite_t hc1 h
     refine aw_skip ?_
     refine aq_then ?_
     refine aw_seq ?_
     refine aw_block ?_
     refine aw_rs ?_
     refine .mv rfl (by rfl) ?_
     obtain ⟨x2, hx3, h⟩ := bind_some h
     obtain ⟨hx4, hx3⟩ := rd_some hx3
     refine .v (f_indexS (by rfl) sl72 hx4 (rd_map _ hx3)) rfl (.c rfl (.c rfl .nil)) .nil ?_
     refine .v (f_loadR (z := (eGLine x2)) (by rfl) ty26) rfl (.c rfl .nil) .nil ?_
     refine .n (f_alloc 4 (by rfl) zrv26) rfl .nil rfl ?_
     refine .as rfl (by rfl) ?_
     refine .s (f_store (n := 0) (o := 4) (off := 0) (p := []) (c := .st [.d (eA22 (List.replicate 32 (0 : Int))), .d (.val (.slice none 0 0))]) (old := .st [.d (eA22 (List.replicate 32 (0 : Int))), .d (.val (.slice none 0 0))]) (z := .d (eGLine x2)) (c' := .d (eGLine x2)) rfl rfl (by rfl) ty26 (by rfl)) rfl (.c rfl (.c rfl .nil)) (.cons rfl .nil) ?_
     refine .nil (aq_then ?_)
     refine aw_seq ?_
     obtain ⟨o15, ho17, h⟩ := bind_some h
     refine aw_join (.normal) ⟨[(1, .ptr 1 0 []), (6, .d (eL72 a0.Lines)), (7, .d (.val (.int .i64 ((a0.Lines).length : Int)))), (8, .d (.val (.int .i64 z0_0))), (38, .d (.val (.bool o15)))], [(1, .av (.d (eGShard a0)))], []⟩ ?_ ?_
     · replace h := ho17
       refine aw_rd ?_
       refine .v (f_fieldAddr (n := 32) (by rfl) fl26_1 (by decide)) rfl (.c rfl .nil) .nil ?_
       refine .v (f_load (n := 0) (o := 4) (off := (0 + 32)) (p := [1]) (c := .d (eGLine x2)) (z := .d (eL24 x2.Txs)) (by rfl) rfl ty24 (by rfl)) rfl (.c rfl .nil) (.cons rfl .nil) ?_
       refine .v (f_lenD (n := (x2.Txs).length) (by rfl) sl24 rfl (by simp)) rfl (.c rfl .nil) .nil ?_
       refine .v (f_binI (by rfl) rfl (by rfl)) rfl (.c rfl (.c rfl .nil)) .nil ?_
       refine .v (f_move (by rfl)) rfl (.c rfl .nil) .nil ?_
       rcases Bool.eq_false_or_eq_true (((x2.Txs).length : Int) == (0 : Int)) with hc5 | hc5
       · replace h := ite_t hc5 h
         refine .off rfl rfl rfl hc5 rfl (by rfl) ?_
         refine .off rfl rfl rfl hc5 rfl (by rfl) ?_
         refine .off rfl rfl rfl hc5 rfl (by rfl) ?_
         refine .v (f_pick_true (by rfl) hc5) rfl (.c rfl (.c rfl .nil)) .nil ?_
         refine .v (f_move (by rfl)) rfl (.c rfl .nil) .nil ?_
         refine .off rfl rfl rfl rfl rfl (by rfl) ?_
         refine .off rfl rfl rfl rfl rfl (by rfl) ?_
         refine .off rfl rfl rfl rfl rfl (by rfl) ?_
         refine .offu rfl rfl rfl rfl (by rfl) ?_
         refine .offu rfl rfl rfl rfl (by rfl) ?_
         refine .offu rfl rfl rfl rfl (by rfl) ?_
         refine .offu rfl rfl rfl rfl (by rfl) ?_
         refine .offu rfl rfl rfl rfl (by rfl) ?_
         refine .offu rfl rfl rfl rfl (by rfl) ?_
         refine .offu rfl rfl rfl rfl (by rfl) ?_
         refine .offu rfl rfl rfl rfl (by rfl) ?_
         refine .offu rfl rfl rfl rfl (by rfl) ?_
         refine .offu rfl rfl rfl rfl (by rfl) ?_
         refine .offu rfl rfl rfl rfl (by rfl) ?_
         refine .off rfl rfl rfl rfl rfl (by rfl) ?_
         refine .v (f_pick_true (by rfl) rfl) rfl (.c rfl (.c rfl .nil)) .nil ?_
         refine .nil (by kernel_rfl) ?_
         obtain rfl := Option.some.inj h
         refine aq_weak (s' := ⟨[(1, .ptr 1 0 []), (6, .d (eL72 a0.Lines)), (7, .d (.val (.int .i64 ((a0.Lines).length : Int)))), (8, .d (.val (.int .i64 z0_0))), (38, .d (.val (.bool true)))], [(1, .av (.d (eGShard a0)))], []⟩) id hb0 (.keep rfl (.keep rfl (.keep rfl (.keep rfl (.keep rfl .nil))))) (.keep rfl .nil) rfl (by rfl) ?_
         exact jq
       replace h := ite_f hc5 h
       refine .gv (f_load (n := 0) (o := 4) (off := 0) (p := []) (c := .d (eGLine x2)) (z := .d (eGLine x2)) (by rfl) rfl ty26 (by rfl)) rfl rfl rfl hc5 (.c rfl .nil) (.cons rfl .nil) ?_
       obtain ⟨y6, hy7, h⟩ := bind_some h
       refine .gv (f_callP hgl (by rfl) en18 rfl (by rfl) (by rfl) (by rfl) (F18_queue_Check_ok hy7)) rfl rfl rfl hc5 (.c rfl .nil) .nil ?_
       refine .gv (f_binI (by rfl) rfl (by rfl)) rfl rfl rfl hc5 (.c rfl (.c rfl .nil)) .nil ?_
       refine .v (f_pick_false (by rfl) hc5) rfl (.c rfl (.c rfl .nil)) .nil ?_
       refine .v (f_move (by rfl)) rfl (.c rfl .nil) .nil ?_
       rcases Bool.eq_false_or_eq_true (y6 != (0 : Int)) with hc8 | hc8
       · replace h := ite_t hc8 h
         refine .off rfl rfl rfl hc8 rfl (by rfl) ?_
         refine .off rfl rfl rfl hc8 rfl (by rfl) ?_
         refine .off rfl rfl rfl hc8 rfl (by rfl) ?_
         refine .offu rfl rfl rfl rfl (by rfl) ?_
         refine .offu rfl rfl rfl rfl (by rfl) ?_
         refine .offu rfl rfl rfl rfl (by rfl) ?_
         refine .offu rfl rfl rfl rfl (by rfl) ?_
         refine .offu rfl rfl rfl rfl (by rfl) ?_
         refine .offu rfl rfl rfl rfl (by rfl) ?_
         refine .offu rfl rfl rfl rfl (by rfl) ?_
         refine .offu rfl rfl rfl rfl (by rfl) ?_
         refine .offu rfl rfl rfl rfl (by rfl) ?_
         refine .offu rfl rfl rfl rfl (by rfl) ?_
         refine .offu rfl rfl rfl rfl (by rfl) ?_
         refine .off rfl rfl rfl hc8 rfl (by rfl) ?_
         refine .v (f_pick_true (by rfl) hc8) rfl (.c rfl (.c rfl .nil)) .nil ?_
         refine .nil (by kernel_rfl) ?_
         obtain rfl := Option.some.inj h
         refine aq_weak (s' := ⟨[(1, .ptr 1 0 []), (6, .d (eL72 a0.Lines)), (7, .d (.val (.int .i64 ((a0.Lines).length : Int)))), (8, .d (.val (.int .i64 z0_0))), (38, .d (.val (.bool true)))], [(1, .av (.d (eGShard a0)))], []⟩) id hb0 (.keep rfl (.keep rfl (.keep rfl (.keep rfl (.keep rfl .nil))))) (.keep rfl .nil) rfl (by rfl) ?_
         exact jq
       replace h := ite_f hc8 h
       refine .gv (f_move (by rfl)) rfl rfl rfl hc8 (.c rfl .nil) .nil ?_
       refine .gv (f_binI (by rfl) rfl (by rfl)) rfl rfl rfl hc8 (.c rfl (.c rfl .nil)) .nil ?_
       refine .gv (f_move (by rfl)) rfl rfl rfl hc8 (.c rfl .nil) .nil ?_
       rcases Bool.eq_false_or_eq_true (decide (z0_0 > (0 : Int))) with hc9 | hc9
       · replace h := ite_t hc9 h
         refine .gv (f_fieldAddr (n := 0) (by rfl) fl74_0 (by decide)) rfl rfl rfl hc9 (.c rfl .nil) .nil ?_
         refine .gv (f_load (n := 0) (o := 1) (off := (0 + 0)) (p := [0]) (c := .d (eGShard a0)) (z := .d (eL72 a0.Lines)) (by rfl) rfl ty72 (by rfl)) rfl rfl rfl hc9 (.c rfl .nil) (.cons rfl .nil) ?_
         refine .gv (f_move (by rfl)) rfl rfl rfl hc9 (.c rfl .nil) .nil ?_
         refine .gv (f_binI (by rfl) rfl (by rfl)) rfl rfl rfl hc9 (.c rfl (.c rfl .nil)) .nil ?_
         obtain ⟨x10, hx11, h⟩ := bind_some h
         obtain ⟨hx12, hx11⟩ := rd_some hx11
         refine .gv (f_indexS (by rfl) sl72 hx12 (rd_map _ hx11)) rfl rfl rfl hc9 (.c rfl (.c rfl .nil)) .nil ?_
         refine .gv (f_fieldAddrR (by rfl) fl26_0 (by decide) rfl) rfl rfl rfl hc9 (.c rfl .nil) .nil ?_
         refine .gv (f_loadR (z := (eA22 x10.From)) (by rfl) ty23) rfl rfl rfl hc9 (.c rfl .nil) .nil ?_
         refine .gv (f_fieldAddr (n := 0) (by rfl) fl26_0 (by decide)) rfl rfl rfl hc9 (.c rfl .nil) .nil ?_
         refine .gv (f_load (n := 0) (o := 4) (off := (0 + 0)) (p := [0]) (c := .d (eGLine x2)) (z := .d (eA22 x2.From)) (by rfl) rfl ty23 (by rfl)) rfl rfl rfl hc9 (.c rfl .nil) (.cons rfl .nil) ?_
         obtain ⟨y13, hy14, h⟩ := bind_some h
         refine .gv (f_callP hgl (by rfl) en96 rfl (by rfl) (by rfl) (by rfl) (F96_path_Ahead_ok hy14)) rfl rfl rfl hc9 (.c rfl (.c rfl .nil)) .nil ?_
         refine .gv (f_not (by rfl)) rfl rfl rfl hc9 (.c rfl .nil) .nil ?_
         refine .gv (f_pick_true (by rfl) hc9) rfl rfl rfl hc8 (.c rfl (.c rfl .nil)) .nil ?_
         refine .v (f_pick_false (by rfl) hc8) rfl (.c rfl (.c rfl .nil)) .nil ?_
         refine .nil (by kernel_rfl) ?_
         obtain rfl := Option.some.inj h
         refine aq_weak (s' := ⟨[(1, .ptr 1 0 []), (6, .d (eL72 a0.Lines)), (7, .d (.val (.int .i64 ((a0.Lines).length : Int)))), (8, .d (.val (.int .i64 z0_0))), (38, .d (.val (.bool (!y13))))], [(1, .av (.d (eGShard a0)))], []⟩) id hb0 (.keep rfl (.keep rfl (.keep rfl (.keep rfl (.keep rfl .nil))))) (.keep rfl .nil) rfl (by rfl) ?_
         exact jq
       replace h := ite_f hc9 h
       refine .off rfl rfl rfl hc9 rfl (by rfl) ?_
       refine .off rfl rfl rfl hc9 rfl (by rfl) ?_
       refine .off rfl rfl rfl hc9 rfl (by rfl) ?_
       refine .off rfl rfl rfl hc9 rfl (by rfl) ?_
       refine .off rfl rfl rfl hc9 rfl (by rfl) ?_
       refine .off rfl rfl rfl hc9 rfl (by rfl) ?_
       refine .off rfl rfl rfl hc9 rfl (by rfl) ?_
       refine .off rfl rfl rfl hc9 rfl (by rfl) ?_
       refine .off rfl rfl rfl hc9 rfl (by rfl) ?_
       refine .off rfl rfl rfl hc9 rfl (by rfl) ?_
       refine .off rfl rfl rfl hc9 rfl (by rfl) ?_
       refine .gv (f_pick_false (by rfl) hc9) rfl rfl rfl hc8 (.c rfl (.c rfl .nil)) .nil ?_
       refine .v (f_pick_false (by rfl) hc8) rfl (.c rfl (.c rfl .nil)) .nil ?_
       refine .nil (by kernel_rfl) ?_
       obtain rfl := Option.some.inj h
       refine aq_weak (s' := ⟨[(1, .ptr 1 0 []), (6, .d (eL72 a0.Lines)), (7, .d (.val (.int .i64 ((a0.Lines).length : Int)))), (8, .d (.val (.int .i64 z0_0))), (38, .d (.val (.bool false)))], [(1, .av (.d (eGShard a0)))], []⟩) id hb0 (.keep rfl (.keep rfl (.keep rfl (.keep rfl (.keep rfl .nil))))) (.keep rfl .nil) rfl (by rfl) ?_
       exact jq
     refine aq_then ?_
     refine aw_cond rfl (fun hc16 => ?_) (fun hc16 => ?_)
     · replace h := ite_t hc16 h
       refine aw_rs ?_
       refine .as rfl (by rfl) ?_
       refine .nil (aq_then ?_)
       refine aw_ret ?_
       refine aq_block_ret ?_
       refine aq_then_ret ?_
       obtain rfl := Option.some.inj h
       refine aq_weak (s' := ⟨[(2, .d (.val (.int .i64 (8 : Int))))], [], []⟩) id hb0 (.keep rfl .nil) .nil rfl (by rfl) ?_
       exact jq
     replace h := ite_f hc16 h
     refine aw_skip ?_
     refine aq_block ?_
     refine aq_then ?_
     refine aw_r ?_
     refine .v (f_binI (by rfl) rfl (by rfl)) rfl (.c rfl (.c rfl .nil)) .nil ?_
     refine .mv rfl (by rfl) ?_
     refine .nil ?_
     obtain rfl := Option.some.inj h
     refine aq_weak (s' := ⟨[(1, .ptr 1 0 []), (6, .d (eL72 a0.Lines)), (7, .d (.val (.int .i64 ((a0.Lines).length : Int)))), (8, .d (.val (.int .i64 (IntKind.i64.wrap (z0_0 + (1 : Int))))))], [(1, .av (.d (eGShard a0)))], []⟩) id hb0 (.keep rfl (.keep rfl (.keep rfl (.keep rfl .nil)))) (.keep rfl .nil) rfl (by rfl) ?_
     exact jq
   replace h := ite_f hc1 h
   refine aw_exit ?_
   refine aq_then_exit ?_
   obtain rfl := Option.some.inj h
   refine aq_weak (s' := ⟨[], [], []⟩) id hb0 .nil .nil rfl (by rfl) ?_
   exact jq
 rcases o18 with j18 | j18
 · replace h := elim_l h
   refine aq_block_exit ?_
   refine aq_then ?_
   refine aw_rs ?_
   refine .as rfl (by rfl) ?_
   refine .nil (aq_then ?_)
   refine aw_ret ?_
   obtain rfl := Option.some.inj h
   exact aq_finp hb0 rfl (.tmp rfl (by rfl) .nil) (by rfl) rfl ⟨rfl, rfl⟩
 replace h := elim_r h
 refine aq_block_ret ?_
 refine aq_then_ret ?_
 obtain rfl := Option.some.inj h
 exact aq_finp hb0 rfl (.tmp rfl (by rfl) .nil) (by rfl) rfl ⟨rfl, rfl⟩

/- 33: beadroll/pool.Twin -/
def F33_pool_Twin_s0 (n : Nat) (a0 : (List GShard)) (z0_0 : Int) (z0_1 : List GShard) : Option ((Int × List GShard) ⊕ (List GShard)) :=
  (if (decide (z0_0 < ((a0).length : Int))) = true then ((rd a0 z0_0).bind fun (x2 : GShard) => ((F61_shard_Twin n x2).bind fun (y5 : List GLine) => (if ((z0_1 ++ ([(⟨y5⟩ : GShard)] : List GShard))).length ≤ 1073741824 then some (.inl ((IntKind.i64.wrap (z0_0 + (1 : Int))), (z0_1 ++ ([(⟨y5⟩ : GShard)] : List GShard)))) else none))) else some (.inr z0_1))
def F33_pool_Twin (n : Nat) (a0 : (List GShard)) : Option (List GShard) :=
  ((loopF (fun (z : Int × List GShard) => F33_pool_Twin_s0 n a0 z.1 z.2) n ((0 : Int), ([] : List GShard))).bind fun (o8 : List GShard) => some o8)
theorem F33_pool_Twin_ok {n : Nat} {a0 : (List GShard)} {r : List GShard} (h : F33_pool_Twin n a0 = some r) :
    ACall Tryd.prog GS 33 [.d (eL41 a0)] [] (fun r' hp' => r' = .slc 1087 0 ((r).length) 1 ∧ hp' = [(1087, .av (.d (.arr 1 ((r).length) ((r).map eGShard))))]) := by
 refine acall_of_body mixed Tryd.func33 rfl (by rfl) ?_
 intro C hro hgl hb0
 unfold F33_pool_Twin at h
 refine aw_rs ?_
 refine .as rfl (by rfl) ?_
 refine .nil (aq_then ?_)
 refine aw_rs ?_
 refine .as rfl (by rfl) ?_
 refine .nil (aq_then ?_)
 refine aw_seq ?_
 refine aw_rs ?_
 refine .mv rfl (by rfl) ?_
 refine .v (f_lenD (n := (a0).length) (by rfl) sl41 rfl (by simp)) rfl (.c rfl .nil) .nil ?_
 refine .mv rfl (by rfl) ?_
 refine .nil (aq_then ?_)
 refine aw_block ?_
 refine aw_adopt 3 1087 1 rfl rfl ?_
 refine aw_weak (s' := ⟨[(3, .slc 1087 0 ((([] : List GShard)).length) 1), (6, .d (eL41 a0)), (7, .d (.val (.int .i64 ((a0).length : Int)))), (8, .d (.val (.int .i64 (0 : Int))))], [(1087, .av (.d (.arr 1 ((([] : List GShard)).length) ((([] : List GShard)).map eGShard))))], []⟩) id hb0 (.keep (by simp only [List.length_set]; rfl) (.keep rfl (.keep rfl (.keep rfl .nil)))) (.keep (by simp only [List.length_set]; rfl) .nil) rfl (by rfl) ?_
 obtain ⟨o8, ho9, h⟩ := bind_some h
 refine aw_loopX (σ := Int × List GShard) (fun z => ⟨[(3, .slc 1087 0 ((z.2).length) 1), (6, .d (eL41 a0)), (7, .d (.val (.int .i64 ((a0).length : Int)))), (8, .d (.val (.int .i64 z.1)))], [(1087, .av (.d (.arr 1 ((z.2).length) ((z.2).map eGShard))))], []⟩) (fun _ => (.exit 0)) (fun (o8 : List GShard) => ⟨[(3, .slc 1087 0 ((o8).length) 1)], [(1087, .av (.d (.arr 1 ((o8).length) ((o8).map eGShard))))], []⟩) ho9 (fun _ => rfl) ?_ ?_
 · clear h ho9
   rintro ⟨z0_0, z0_1⟩ o h
   change F33_pool_Twin_s0 n a0 z0_0 z0_1 = some o at h
   unfold F33_pool_Twin_s0 at h
   show AW _ _ _ ⟨[(3, .slc 1087 0 ((z0_1).length) 1), (6, .d (eL41 a0)), (7, .d (.val (.int .i64 ((a0).length : Int)))), (8, .d (.val (.int .i64 z0_0)))], [(1087, .av (.d (.arr 1 ((z0_1).length) ((z0_1).map eGShard))))], []⟩
   refine aw_rs ?_
   refine .v (f_binI (by rfl) rfl (by rfl)) rfl (.c rfl (.c rfl .nil)) .nil ?_
   refine .nil (aq_then ?_)
   refine aw_seq ?_
   refine aw_cond rfl (fun hc1 => ?_) (fun hc1 => ?_)
   · replace h := ite_t hc1 h
     refine aw_skip ?_
     refine aq_then ?_
     refine aw_seq ?_
     refine aw_block ?_
     refine aw_rs ?_
     obtain ⟨x2, hx3, h⟩ := bind_some h
     obtain ⟨hx4, hx3⟩ := rd_some hx3
     refine .v (f_indexS (by rfl) sl41 hx4 (rd_map _ hx3)) rfl (.c rfl (.c rfl .nil)) .nil ?_
     refine .v (f_loadR (z := (eGShard x2)) (by rfl) ty74) rfl (.c rfl .nil) .nil ?_
     refine .n (f_alloc 5 (by rfl) zrv74) rfl .nil rfl ?_
     refine .s (f_store (n := 0) (o := 5) (off := 0) (p := []) (c := .st [.d (.val (.slice none 0 0))]) (old := .st [.d (.val (.slice none 0 0))]) (z := .d (eGShard x2)) (c' := .d (eGShard x2)) rfl rfl (by rfl) ty74 (by rfl)) rfl (.c rfl (.c rfl .nil)) (.cons rfl .nil) ?_
     refine .nil (aq_then ?_)
     refine aw_r ?_
     refine .mv rfl (by rfl) ?_
     refine .v (f_load (n := 0) (o := 5) (off := 0) (p := []) (c := .d (eGShard x2)) (z := .d (eGShard x2)) (by rfl) rfl ty74 (by rfl)) rfl (.c rfl .nil) (.cons rfl .nil) ?_
     obtain ⟨y5, hy6, h⟩ := bind_some h
     refine .w (f_callG (xs := [.d (eGShard x2)]) (r := .st [.slc 1093 0 ((y5).length) 33]) (hw := [(1092, .av (.st [.slc 1093 0 ((y5).length) 33])), (1093, .av (.d (.arr 33 ((y5).length) ((y5).map eGLine))))]) (fun i => bif Nat.beq i 1081 then 1093 else (bif Nat.beq i 2 then 1092 else i)) [] hgl (by rfl) (cal_f en61) rfl (by rfl) (by rfl) (by rfl) (by rfl) (.cons (.same _) .nil) rfl rfl rfl rfl (F61_shard_Twin_ok hy6)) rfl (.c rfl .nil) .nil (.cons rfl (.cons rfl .nil)) ?_
     refine R.freezeH [(1093, (.arr 33 ((y5).length) ((y5).map eGLine)))] [(6, .d (eL41 a0)), (7, .d (.val (.int .i64 ((a0).length : Int)))), (8, .d (.val (.int .i64 z0_0))), (12, .slc 1087 0 ((z0_1).length) 1), (14, .d (eGShard (⟨y5⟩ : GShard)))] [(1092, .av (.d (eGShard (⟨y5⟩ : GShard))))] (.cons rfl .nil) (.keep rfl (.keep rfl (.keep rfl (.keep rfl (.cons rfl (.st (.cons (.whole (.head _)) .nil)) .nil))))) (.cons rfl (by rfl) (.st (.cons (.whole (.head _)) .nil)) .nil) ?_
     refine .n (f_buildS (xs := [(0, .d (eGShard (⟨y5⟩ : GShard)))]) (z := (.st [(.val (.slice none 0 0))])) (zs := (([(⟨y5⟩ : GShard)] : List GShard)).map eGShard) 1094 (by rfl) el41 zel41 (by rfl) (by decide) (by decide) rfl (by rfl) ⟨_, _, _, rfl, pl41_0, rfl, rfl, trivial⟩ (by rfl)) rfl (.c rfl .nil) rfl ?_
     obtain ⟨hb7, h⟩ := ifp h
     refine .w (f_appendC (m := ((z0_1 ++ ([(⟨y5⟩ : GShard)] : List GShard))).length) (ys := (([(⟨y5⟩ : GShard)] : List GShard) : List GShard).map eGShard) (xs := (z0_1).map eGShard) (zs := ((z0_1 ++ ([(⟨y5⟩ : GShard)] : List GShard))).map eGShard) 1095 (by rfl) el41 (by simp) (by simp) (by simp [List.map_drop]) (by simp) (Nat.le_trans (Nat.mul_le_mul_right _ hb7) (by decide)) (Nat.le_trans hb7 (by decide)) srcW) rfl (.c rfl (.c rfl .nil)) (.cons rfl (.cons rfl .nil)) (.cons rfl .nil) ?_
     refine .as rfl (by rfl) ?_
     refine .nil ?_
     refine aq_block ?_
     refine aq_then ?_
     refine aw_r ?_
     refine .v (f_binI (by rfl) rfl (by rfl)) rfl (.c rfl (.c rfl .nil)) .nil ?_
     refine .mv rfl (by rfl) ?_
     refine .nil ?_
     obtain rfl := Option.some.inj h
     refine aq_weak (s' := ⟨[(3, .slc 1087 0 (((z0_1 ++ ([(⟨y5⟩ : GShard)] : List GShard))).length) 1), (6, .d (eL41 a0)), (7, .d (.val (.int .i64 ((a0).length : Int)))), (8, .d (.val (.int .i64 (IntKind.i64.wrap (z0_0 + (1 : Int))))))], [(1087, .av (.d (.arr 1 (((z0_1 ++ ([(⟨y5⟩ : GShard)] : List GShard))).length) (((z0_1 ++ ([(⟨y5⟩ : GShard)] : List GShard))).map eGShard))))], []⟩) (fun i => (bif Nat.beq i 1087 then 1095 else i)) hb0 (.cons rfl (.cons rfl (.cons rfl (.cons rfl .nil)))) (.cons rfl .nil) rfl (by rfl) ?_
     exact jq
   replace h := ite_f hc1 h
   refine aw_exit ?_
   refine aq_then_exit ?_
   obtain rfl := Option.some.inj h
   refine aq_weak (s' := ⟨[(3, .slc 1087 0 ((z0_1).length) 1)], [(1087, .av (.d (.arr 1 ((z0_1).length) ((z0_1).map eGShard))))], []⟩) id hb0 (.keep rfl .nil) (.keep rfl .nil) rfl (by rfl) ?_
   exact jq
 refine aq_block_exit ?_
 refine aq_then ?_
 refine aw_rs ?_
 refine .mv rfl (by rfl) ?_
 refine .as rfl (by rfl) ?_
 refine .nil (aq_then ?_)
 refine aw_ret ?_
 obtain rfl := Option.some.inj h
 refine aq_weak (s' := ⟨[(2, .slc 1087 0 ((o8).length) 1)], [(1087, .av (.d (.arr 1 ((o8).length) ((o8).map eGShard))))], []⟩) id hb0 (.keep rfl .nil) (.keep rfl .nil) rfl (by rfl) ?_
 exact aq_fin1 (.tmp rfl (by rfl) .nil) rfl ⟨rfl, rfl⟩

/- 80: beadroll/pool.Check$1 -/
def F80_pool_Check_1_264 (n : Nat) (a0 : GLine) (a1 : (List GShard)) (a2 : Int) : Option (Bool) :=
  ((F23_pool_At n a0.From ((a1).length : Int)).bind fun (y1 : Int × Int) => some (y1.1 != a2))
theorem F80_pool_Check_1_264_ok {n : Nat} {a0 : GLine} {a1 : (List GShard)} {a2 : Int} {r : Bool} (h : F80_pool_Check_1_264 n a0 a1 a2 = some r) :
    ACall Tryd.prog GS 80 [.d (eGLine a0), .ptr 0 0 [], .ptr 1 0 []] [(0, .av (.d (eL41 a1))), (1, .av (.d (.val (.int .i64 a2))))] (fun r' hp' => r' = .d (.val (.bool r)) ∧ hp' = [(0, .av (.d (eL41 a1))), (1, .av (.d (.val (.int .i64 a2))))]) := by
 refine acall_of_body mixed Tryd.func80 rfl (by rfl) ?_
 intro C hro hgl hb0
 unfold F80_pool_Check_1_264 at h
 refine aw_rs ?_
 refine .n (f_box 3 (by rfl) (by rfl)) rfl (.c rfl .nil) rfl ?_
 refine .as rfl (by rfl) ?_
 refine .nil (aq_then ?_)
 refine aw_rs ?_
 refine .v (f_fieldAddr (n := 0) (by rfl) fl26_0 (by decide)) rfl (.c rfl .nil) .nil ?_
 refine .v (f_load (n := 0) (o := 3) (off := (0 + 0)) (p := [0]) (c := .d (eGLine a0)) (z := .d (eA22 a0.From)) (by rfl) rfl ty23 (by rfl)) rfl (.c rfl .nil) (.cons rfl .nil) ?_
 refine .v (f_load (n := 0) (o := 0) (off := 0) (p := []) (c := .d (eL41 a1)) (z := .d (eL41 a1)) (by rfl) rfl ty41 (by rfl)) rfl (.c rfl .nil) (.cons rfl .nil) ?_
 refine .v (f_lenD (n := (a1).length) (by rfl) sl41 rfl (by simp)) rfl (.c rfl .nil) .nil ?_
 obtain ⟨y1, hy2, h⟩ := bind_some h
 refine .v (f_callP hgl (by rfl) en23 rfl (by rfl) (by rfl) (by rfl) (F23_pool_At_ok hy2)) rfl (.c rfl (.c rfl .nil)) .nil ?_
 refine .mv rfl (by rfl) ?_
 refine .v (f_extract (by rfl) rfl) rfl (.c rfl .nil) .nil ?_
 refine .v (f_extract (by rfl) rfl) rfl (.c rfl .nil) .nil ?_
 refine .as rfl (by rfl) ?_
 refine .as rfl (by rfl) ?_
 refine .nil (aq_then ?_)
 refine aw_rs ?_
 refine .mv rfl (by rfl) ?_
 refine .v (f_load (n := 0) (o := 1) (off := 0) (p := []) (c := .d (.val (.int .i64 a2))) (z := .d (.val (.int .i64 a2))) (by rfl) rfl ty3 (by rfl)) rfl (.c rfl .nil) (.cons rfl .nil) ?_
 refine .v (f_binI (by rfl) rfl (by rfl)) rfl (.c rfl (.c rfl .nil)) .nil ?_
 refine .as rfl (by rfl) ?_
 refine .nil (aq_then ?_)
 refine aw_ret ?_
 obtain rfl := Option.some.inj h
 refine aq_weak (s' := ⟨[(4, .d (.val (.bool (y1.1 != a2))))], [(0, .av (.d (eL41 a1))), (1, .av (.d (.val (.int .i64 a2))))], []⟩) id hb0 (.keep rfl .nil) (.keep rfl (.keep rfl .nil)) rfl (by rfl) ?_
 exact aq_fin1 (.tmp rfl (by rfl) .nil) rfl ⟨rfl, rfl⟩

/- 112: slices.IndexFunc[[]beadroll/api.Line,beadroll/api.Line] -/
def F112_api_Line_dd1_s0 (n : Nat) (a0 : (List GLine)) (a1 : (List GShard)) (a2 : Int) (z0_0 : Int) : Option ((Int) ⊕ ((Unit) ⊕ (Int))) :=
  (if (decide (z0_0 < ((a0).length : Int))) = true then ((rd a0 z0_0).bind fun (x2 : GLine) => ((F80_pool_Check_1_264 n x2 a1 a2).bind fun (y5 : Bool) => (if y5 = true then some (.inr (.inr z0_0)) else some (.inl (IntKind.i64.wrap (z0_0 + (1 : Int))))))) else some (.inr (.inl ())))
def F112_api_Line_dd1 (n : Nat) (a0 : (List GLine)) (a1 : (List GShard)) (a2 : Int) : Option (Int) :=
  ((loopF (fun (z : Int) => F112_api_Line_dd1_s0 n a0 a1 a2 z) n (0 : Int)).bind (Sum.elim (fun (j8 : Unit) => some (-1 : Int)) (fun (j8 : Int) => some j8)))
theorem F112_api_Line_dd1_ok {n : Nat} {a0 : (List GLine)} {a1 : (List GShard)} {a2 : Int} {r : Int} (h : F112_api_Line_dd1 n a0 a1 a2 = some r) :
    ACall Tryd.prog GS 112 [.d (eL72 a0), .fn (.func 80) [] [.ptr 0 0 [], .ptr 1 0 []]] [(0, .av (.d (eL41 a1))), (1, .av (.d (.val (.int .i64 a2))))] (fun r' hp' => r' = .d (.val (.int .i64 r)) ∧ hp' = [(0, .av (.d (eL41 a1))), (1, .av (.d (.val (.int .i64 a2))))]) := by
 refine acall_of_body mixed Tryd.func112 rfl (by rfl) ?_
 intro C hro hgl hb0
 unfold F112_api_Line_dd1 at h
 refine aw_rs ?_
 refine .as rfl (by rfl) ?_
 refine .nil (aq_then ?_)
 refine aw_seq ?_
 refine aw_rs ?_
 refine .mv rfl (by rfl) ?_
 refine .v (f_lenD (n := (a0).length) (by rfl) sl72 rfl (by simp)) rfl (.c rfl .nil) .nil ?_
 refine .mv rfl (by rfl) ?_
 refine .nil (aq_then ?_)
 refine aw_block ?_
 refine aw_weak (s' := ⟨[(0, .d (eL72 a0)), (1, .fn (.func 80) [] [.ptr 0 0 [], .ptr 1 0 []]), (7, .d (.val (.int .i64 ((a0).length : Int)))), (8, .d (.val (.int .i64 (0 : Int))))], [(0, .av (.d (eL41 a1))), (1, .av (.d (.val (.int .i64 a2))))], []⟩) id hb0 (.keep rfl (.keep rfl (.keep rfl (.keep rfl .nil)))) (.keep rfl (.keep rfl .nil)) rfl (by rfl) ?_
 obtain ⟨o8, ho9, h⟩ := bind_some h
 refine aw_loopX (σ := Int) (fun z => ⟨[(0, .d (eL72 a0)), (1, .fn (.func 80) [] [.ptr 0 0 [], .ptr 1 0 []]), (7, .d (.val (.int .i64 ((a0).length : Int)))), (8, .d (.val (.int .i64 z)))], [(0, .av (.d (eL41 a1))), (1, .av (.d (.val (.int .i64 a2))))], []⟩) (Sum.elim (fun _ => .exit 0) (fun _ => .ret)) (Sum.elim (fun j8 => ⟨[], [(0, .av (.d (eL41 a1))), (1, .av (.d (.val (.int .i64 a2))))], []⟩) (fun j8 => ⟨[(4, .d (.val (.int .i64 j8)))], [(0, .av (.d (eL41 a1))), (1, .av (.d (.val (.int .i64 a2))))], []⟩)) ho9 (by intro b; rcases b with _ | _ <;> rfl) ?_ ?_
 · clear h ho9
   intro z0_0 o h
   change F112_api_Line_dd1_s0 n a0 a1 a2 z0_0 = some o at h
   unfold F112_api_Line_dd1_s0 at h
   show AW _ _ _ ⟨[(0, .d (eL72 a0)), (1, .fn (.func 80) [] [.ptr 0 0 [], .ptr 1 0 []]), (7, .d (.val (.int .i64 ((a0).length : Int)))), (8, .d (.val (.int .i64 z0_0)))], [(0, .av (.d (eL41 a1))), (1, .av (.d (.val (.int .i64 a2))))], []⟩
   refine aw_rs ?_
   refine .v (f_binI (by rfl) rfl (by rfl)) rfl (.c rfl (.c rfl .nil)) .nil ?_
   refine .nil (aq_then ?_)
   refine aw_seq ?_
   refine aw_cond rfl (fun hc1 => ?_) (fun hc1 => ?_)
   · replace h := ite_t hc1 h
     refine aw_skip ?_
     refine aq_then ?_
     refine aw_seq ?_
     refine aw_block ?_
     refine aw_rs ?_
     refine .mv rfl (by rfl) ?_
     refine .as rfl (by rfl) ?_
     refine .nil (aq_then ?_)
     refine aw_rs ?_
     refine .mv rfl (by rfl) ?_
     refine .mv rfl (by rfl) ?_
     refine .mv rfl (by rfl) ?_
     obtain ⟨x2, hx3, h⟩ := bind_some h
     obtain ⟨hx4, hx3⟩ := rd_some hx3
     refine .v (f_indexS (by rfl) sl72 hx4 (rd_map _ hx3)) rfl (.c rfl (.c rfl .nil)) .nil ?_
     refine .v (f_loadR (z := (eGLine x2)) (by rfl) ty26) rfl (.c rfl .nil) .nil ?_
     obtain ⟨y5, hy6, h⟩ := bind_some h
     refine .w (f_callG0 (xs := [.d (eGLine x2)]) (r := .d (.val (.bool y5))) (fun i => i) [] hgl (by rfl) (cal_v (first := []) (caps := [.ptr 0 0 [], .ptr 1 0 []]) en80) rfl (by rfl) (by rfl) (by rfl) (by rfl) (.cons (.same _) (.cons (.same _) (.cons (.same _) .nil))) rfl rfl (F80_pool_Check_1_264_ok hy6)) rfl (.c rfl (.c rfl .nil)) (.cons rfl (.cons rfl .nil)) .nil ?_
     refine .nil (aq_then ?_)
     refine aw_cond rfl (fun hc7 => ?_) (fun hc7 => ?_)
     · replace h := ite_t hc7 h
       refine aw_rs ?_
       refine .mv rfl (by rfl) ?_
       refine .as rfl (by rfl) ?_
       refine .nil (aq_then ?_)
       refine aw_ret ?_
       refine aq_block_ret ?_
       refine aq_then_ret ?_
       obtain rfl := Option.some.inj h
       refine aq_weak (s' := ⟨[(4, .d (.val (.int .i64 z0_0)))], [(0, .av (.d (eL41 a1))), (1, .av (.d (.val (.int .i64 a2))))], []⟩) id hb0 (.keep rfl .nil) (.keep rfl (.keep rfl .nil)) rfl (by rfl) ?_
       exact jq
     replace h := ite_f hc7 h
     refine aw_skip ?_
     refine aq_block ?_
     refine aq_then ?_
     refine aw_r ?_
     refine .v (f_binI (by rfl) rfl (by rfl)) rfl (.c rfl (.c rfl .nil)) .nil ?_
     refine .mv rfl (by rfl) ?_
     refine .nil ?_
     obtain rfl := Option.some.inj h
     refine aq_weak (s' := ⟨[(0, .d (eL72 a0)), (1, .fn (.func 80) [] [.ptr 0 0 [], .ptr 1 0 []]), (7, .d (.val (.int .i64 ((a0).length : Int)))), (8, .d (.val (.int .i64 (IntKind.i64.wrap (z0_0 + (1 : Int))))))], [(0, .av (.d (eL41 a1))), (1, .av (.d (.val (.int .i64 a2))))], []⟩) id hb0 (.keep rfl (.keep rfl (.keep rfl (.keep rfl .nil)))) (.keep rfl (.keep rfl .nil)) rfl (by rfl) ?_
     exact jq
   replace h := ite_f hc1 h
   refine aw_exit ?_
   refine aq_then_exit ?_
   obtain rfl := Option.some.inj h
   refine aq_weak (s' := ⟨[], [(0, .av (.d (eL41 a1))), (1, .av (.d (.val (.int .i64 a2))))], []⟩) id hb0 .nil (.keep rfl (.keep rfl .nil)) rfl (by rfl) ?_
   exact jq
 rcases o8 with j8 | j8
 · replace h := elim_l h
   refine aq_block_exit ?_
   refine aq_then ?_
   refine aw_rs ?_
   refine .as rfl (by rfl) ?_
   refine .nil (aq_then ?_)
   refine aw_ret ?_
   obtain rfl := Option.some.inj h
   refine aq_weak (s' := ⟨[(4, .d (.val (.int .i64 (-1 : Int))))], [(0, .av (.d (eL41 a1))), (1, .av (.d (.val (.int .i64 a2))))], []⟩) id hb0 (.keep rfl .nil) (.keep rfl (.keep rfl .nil)) rfl (by rfl) ?_
   exact aq_fin1 (.tmp rfl (by rfl) .nil) rfl ⟨rfl, rfl⟩
 replace h := elim_r h
 refine aq_block_ret ?_
 refine aq_then_ret ?_
 obtain rfl := Option.some.inj h
 refine aq_weak (s' := ⟨[(4, .d (.val (.int .i64 j8)))], [(0, .av (.d (eL41 a1))), (1, .av (.d (.val (.int .i64 a2))))], []⟩) id hb0 (.keep rfl .nil) (.keep rfl (.keep rfl .nil)) rfl (by rfl) ?_
 exact aq_fin1 (.tmp rfl (by rfl) .nil) rfl ⟨rfl, rfl⟩

/- 79: slices.ContainsFunc[[]beadroll/api.Line,beadroll/api.Line] -/
def F79_api_Line_c11 (n : Nat) (a0 : (List GLine)) (a1 : (List GShard)) (a2 : Int) : Option (Bool) :=
  ((F112_api_Line_dd1 n a0 a1 a2).bind fun (y1 : Int) => some (decide (y1 ≥ (0 : Int))))
theorem F79_api_Line_c11_ok {n : Nat} {a0 : (List GLine)} {a1 : (List GShard)} {a2 : Int} {r : Bool} (h : F79_api_Line_c11 n a0 a1 a2 = some r) :
    ACall Tryd.prog GS 79 [.d (eL72 a0), .fn (.func 80) [] [.ptr 0 0 [], .ptr 1 0 []]] [(0, .av (.d (eL41 a1))), (1, .av (.d (.val (.int .i64 a2))))] (fun r' hp' => r' = .d (.val (.bool r)) ∧ hp' = [(0, .av (.d (eL41 a1))), (1, .av (.d (.val (.int .i64 a2))))]) := by
 refine acall_of_body mixed Tryd.func79 rfl (by rfl) ?_
 intro C hro hgl hb0
 unfold F79_api_Line_c11 at h
 refine aw_rs ?_
 refine .as rfl (by rfl) ?_
 refine .nil (aq_then ?_)
 refine aw_rs ?_
 refine .mv rfl (by rfl) ?_
 refine .mv rfl (by rfl) ?_
 obtain ⟨y1, hy2, h⟩ := bind_some h
 refine .w (f_callG0 (xs := [.d (eL72 a0), .fn (.func 80) [] [.ptr 0 0 [], .ptr 1 0 []]]) (r := .d (.val (.int .i64 y1))) (fun i => i) [] hgl (by rfl) (cal_f en112) rfl (by rfl) (by rfl) (by rfl) (by rfl) (.cons (.same _) (.cons (.same _) .nil)) rfl rfl (F112_api_Line_dd1_ok hy2)) rfl (.c rfl (.c rfl .nil)) (.cons rfl (.cons rfl .nil)) .nil ?_
 refine .v (f_binI (by rfl) rfl (by rfl)) rfl (.c rfl (.c rfl .nil)) .nil ?_
 refine .as rfl (by rfl) ?_
 refine .nil (aq_then ?_)
 refine aw_ret ?_
 obtain rfl := Option.some.inj h
 refine aq_weak (s' := ⟨[(4, .d (.val (.bool (decide (y1 ≥ (0 : Int))))))], [(0, .av (.d (eL41 a1))), (1, .av (.d (.val (.int .i64 a2))))], []⟩) id hb0 (.keep rfl .nil) (.keep rfl (.keep rfl .nil)) rfl (by rfl) ?_
 exact aq_fin1 (.tmp rfl (by rfl) .nil) rfl ⟨rfl, rfl⟩

/- 28: beadroll/pool.Check -/
def F28_pool_Check_s0 (n : Nat) (a0 : (List GShard)) (z0_0 : Int) : Option ((Int) ⊕ ((Unit) ⊕ (Unit))) :=
  (if (decide (z0_0 < ((a0).length : Int))) = true then ((rd a0 z0_0).bind fun (x5 : GShard) => ((((F52_shard_Check n x5).bind fun (y8 : Int) => (if (y8 != (0 : Int)) = true then some true else ((F79_api_Line_c11 n x5.Lines a0 z0_0).bind fun (y11 : Bool) => some y11)))).bind fun (o13 : Bool) => (if o13 = true then some (.inr (.inr ())) else some (.inl (IntKind.i64.wrap (z0_0 + (1 : Int))))))) else some (.inr (.inl ())))
def F28_pool_Check (n : Nat) (a0 : (List GShard)) : Option (Int) :=
  (((if (decide (((a0).length : Int) < (1 : Int))) = true then some true else some (decide (((a0).length : Int) > (8 : Int))))).bind fun (o2 : Bool) => (if o2 = true then some (8 : Int) else ((loopF (fun (z : Int) => F28_pool_Check_s0 n a0 z) n (0 : Int)).bind (Sum.elim (fun (j16 : Unit) => some (0 : Int)) (fun (j16 : Unit) => some (8 : Int))))))
theorem F28_pool_Check_ok {n : Nat} {a0 : (List GShard)} {r : Int} (h : F28_pool_Check n a0 = some r) :
    ACall Tryd.prog GS 28 [.d (eL41 a0)] [] (fun r' hp' => r' = .d (.val (.int .i64 r)) ∧ hp' = []) := by
 refine acall_of_body mixed Tryd.func28 rfl (by rfl) ?_
 intro C hro hgl hb0
 unfold F28_pool_Check at h
 refine aw_rs ?_
 refine .n (f_box 1 (by rfl) (by rfl)) rfl (.c rfl .nil) rfl ?_
 refine .as rfl (by rfl) ?_
 refine .nil (aq_then ?_)
 refine aw_seq ?_
 refine aw_seq ?_
 obtain ⟨o2, ho18, h⟩ := bind_some h
 refine aw_join (.normal) ⟨[(1, .ptr 1 0 []), (12, .d (.val (.bool o2)))], [(1, .av (.d (eL41 a0)))], []⟩ ?_ ?_
 · replace h := ho18
   refine aw_r ?_
   refine .v (f_load (n := 0) (o := 1) (off := 0) (p := []) (c := .d (eL41 a0)) (z := .d (eL41 a0)) (by rfl) rfl ty41 (by rfl)) rfl (.c rfl .nil) (.cons rfl .nil) ?_
   refine .v (f_lenD (n := (a0).length) (by rfl) sl41 rfl (by simp)) rfl (.c rfl .nil) .nil ?_
   refine .v (f_binI (by rfl) rfl (by rfl)) rfl (.c rfl (.c rfl .nil)) .nil ?_
   refine .mv rfl (by rfl) ?_
   rcases Bool.eq_false_or_eq_true (decide (((a0).length : Int) < (1 : Int))) with hc1 | hc1
   · replace h := ite_t hc1 h
     refine .off rfl rfl rfl hc1 rfl (by rfl) ?_
     refine .off rfl rfl rfl hc1 rfl (by rfl) ?_
     refine .off rfl rfl rfl hc1 rfl (by rfl) ?_
     refine .v (f_pick_true (by rfl) hc1) rfl (.c rfl (.c rfl .nil)) .nil ?_
     refine .nil ?_
     obtain rfl := Option.some.inj h
     refine aq_weak (s' := ⟨[(1, .ptr 1 0 []), (12, .d (.val (.bool true)))], [(1, .av (.d (eL41 a0)))], []⟩) id hb0 (.keep rfl (.keep rfl .nil)) (.keep rfl .nil) rfl (by rfl) ?_
     exact jq
   replace h := ite_f hc1 h
   refine .gv (f_load (n := 0) (o := 1) (off := 0) (p := []) (c := .d (eL41 a0)) (z := .d (eL41 a0)) (by rfl) rfl ty41 (by rfl)) rfl rfl rfl hc1 (.c rfl .nil) (.cons rfl .nil) ?_
   refine .gv (f_lenD (n := (a0).length) (by rfl) sl41 rfl (by simp)) rfl rfl rfl hc1 (.c rfl .nil) .nil ?_
   refine .gv (f_binI (by rfl) rfl (by rfl)) rfl rfl rfl hc1 (.c rfl (.c rfl .nil)) .nil ?_
   refine .v (f_pick_false (by rfl) hc1) rfl (.c rfl (.c rfl .nil)) .nil ?_
   refine .nil ?_
   obtain rfl := Option.some.inj h
   refine aq_weak (s' := ⟨[(1, .ptr 1 0 []), (12, .d (.val (.bool (decide (((a0).length : Int) > (8 : Int))))))], [(1, .av (.d (eL41 a0)))], []⟩) id hb0 (.keep rfl (.keep rfl .nil)) (.keep rfl .nil) rfl (by rfl) ?_
   exact jq
 refine aq_then ?_
 refine aw_cond rfl (fun hc3 => ?_) (fun hc3 => ?_)
 · replace h := ite_t hc3 h
   refine aw_rs ?_
   refine .as rfl (by rfl) ?_
   refine .nil (aq_then ?_)
   refine aw_ret ?_
   refine aq_then_ret ?_
   obtain rfl := Option.some.inj h
   exact aq_finp hb0 rfl (.tmp rfl (by rfl) .nil) (by rfl) rfl ⟨rfl, rfl⟩
 replace h := ite_f hc3 h
 refine aw_skip ?_
 refine aq_then ?_
 refine aw_seq ?_
 refine aw_rs ?_
 refine .v (f_load (n := 0) (o := 1) (off := 0) (p := []) (c := .d (eL41 a0)) (z := .d (eL41 a0)) (by rfl) rfl ty41 (by rfl)) rfl (.c rfl .nil) (.cons rfl .nil) ?_
 refine .v (f_lenD (n := (a0).length) (by rfl) sl41 rfl (by simp)) rfl (.c rfl .nil) .nil ?_
 refine .mv rfl (by rfl) ?_
 refine .nil (aq_then ?_)
 refine aw_block ?_
 refine aw_weak (s' := ⟨[(1, .ptr 1 0 []), (13, .d (eL41 a0)), (14, .d (.val (.int .i64 ((a0).length : Int)))), (15, .d (.val (.int .i64 (0 : Int))))], [(1, .av (.d (eL41 a0)))], []⟩) id hb0 (.keep rfl (.keep rfl (.keep rfl (.keep rfl .nil)))) (.keep rfl .nil) rfl (by rfl) ?_
 obtain ⟨o16, ho17, h⟩ := bind_some h
 refine aw_loopX (σ := Int) (fun z => ⟨[(1, .ptr 1 0 []), (13, .d (eL41 a0)), (14, .d (.val (.int .i64 ((a0).length : Int)))), (15, .d (.val (.int .i64 z)))], [(1, .av (.d (eL41 a0)))], []⟩) (Sum.elim (fun _ => .exit 0) (fun _ => .ret)) (Sum.elim (fun j16 => ⟨[], [], []⟩) (fun j16 => ⟨[(2, .d (.val (.int .i64 (8 : Int))))], [], []⟩)) ho17 (by intro b; rcases b with _ | _ <;> rfl) ?_ ?_
 · clear h ho17
   intro z0_0 o h
   change F28_pool_Check_s0 n a0 z0_0 = some o at h
   unfold F28_pool_Check_s0 at h
   show AW _ _ _ ⟨[(1, .ptr 1 0 []), (13, .d (eL41 a0)), (14, .d (.val (.int .i64 ((a0).length : Int)))), (15, .d (.val (.int .i64 z0_0)))], [(1, .av (.d (eL41 a0)))], []⟩
   refine aw_rs ?_
   refine .v (f_binI (by rfl) rfl (by rfl)) rfl (.c rfl (.c rfl .nil)) .nil ?_
   refine .nil (aq_then ?_)
   refine aw_seq ?_
   refine aw_cond rfl (fun hc4 => ?_) (fun hc4 => ?_)
   · replace h := ite_t hc4 h
     refine aw_skip ?_
     refine aq_then ?_
     refine aw_seq ?_
     refine aw_block ?_
     refine aw_rs ?_
     refine .mv rfl (by rfl) ?_
     obtain ⟨x5, hx6, h⟩ := bind_some h
     obtain ⟨hx7, hx6⟩ := rd_some hx6
     refine .v (f_indexS (by rfl) sl41 hx7 (rd_map _ hx6)) rfl (.c rfl (.c rfl .nil)) .nil ?_
     refine .v (f_loadR (z := (eGShard x5)) (by rfl) ty74) rfl (.c rfl .nil) .nil ?_
     refine .n (f_alloc 3 (by rfl) zr3) rfl .nil rfl ?_
     refine .n (f_alloc 4 (by rfl) zrv74) rfl .nil rfl ?_
     refine .s (f_store (n := 0) (o := 3) (off := 0) (p := []) (c := .d (.val (.int .i64 (0 : Int)))) (old := .d (.val (.int .i64 (0 : Int)))) (z := .d (.val (.int .i64 z0_0))) (c' := .d (.val (.int .i64 z0_0))) rfl rfl (by rfl) ty3 (by rfl)) rfl (.c rfl (.c rfl .nil)) (.cons rfl .nil) ?_
     refine .s (f_store (n := 0) (o := 4) (off := 0) (p := []) (c := .st [.d (.val (.slice none 0 0))]) (old := .st [.d (.val (.slice none 0 0))]) (z := .d (eGShard x5)) (c' := .d (eGShard x5)) rfl rfl (by rfl) ty74 (by rfl)) rfl (.c rfl (.c rfl .nil)) (.cons rfl .nil) ?_
     refine .nil (aq_then ?_)
     refine aw_seq ?_
     obtain ⟨o13, ho15, h⟩ := bind_some h
     refine aw_join (.normal) ⟨[(1, .ptr 1 0 []), (13, .d (eL41 a0)), (14, .d (.val (.int .i64 ((a0).length : Int)))), (15, .d (.val (.int .i64 z0_0))), (28, .d (.val (.bool o13)))], [(1, .av (.d (eL41 a0)))], []⟩ ?_ ?_
     · replace h := ho15
       refine aw_r ?_
       refine .v (f_load (n := 0) (o := 4) (off := 0) (p := []) (c := .d (eGShard x5)) (z := .d (eGShard x5)) (by rfl) rfl ty74 (by rfl)) rfl (.c rfl .nil) (.cons rfl .nil) ?_
       obtain ⟨y8, hy9, h⟩ := bind_some h
       refine .v (f_callP hgl (by rfl) en52 rfl (by rfl) (by rfl) (by rfl) (F52_shard_Check_ok hy9)) rfl (.c rfl .nil) .nil ?_
       refine .v (f_binI (by rfl) rfl (by rfl)) rfl (.c rfl (.c rfl .nil)) .nil ?_
       refine .mv rfl (by rfl) ?_
       rcases Bool.eq_false_or_eq_true (y8 != (0 : Int)) with hc10 | hc10
       · replace h := ite_t hc10 h
         refine .off rfl rfl rfl hc10 rfl (by rfl) ?_
         refine .off rfl rfl rfl hc10 rfl (by rfl) ?_
         refine .off rfl rfl rfl hc10 rfl (by rfl) ?_
         refine .off rfl rfl rfl hc10 rfl (by rfl) ?_
         refine .v (f_pick_true (by rfl) hc10) rfl (.c rfl (.c rfl .nil)) .nil ?_
         refine .nil ?_
         obtain rfl := Option.some.inj h
         refine aq_weak (s' := ⟨[(1, .ptr 1 0 []), (13, .d (eL41 a0)), (14, .d (.val (.int .i64 ((a0).length : Int)))), (15, .d (.val (.int .i64 z0_0))), (28, .d (.val (.bool true)))], [(1, .av (.d (eL41 a0)))], []⟩) id hb0 (.keep rfl (.keep rfl (.keep rfl (.keep rfl (.keep rfl .nil))))) (.keep rfl .nil) rfl (by rfl) ?_
         exact jq
       replace h := ite_f hc10 h
       refine .gv (f_fieldAddr (n := 0) (by rfl) fl74_0 (by decide)) rfl rfl rfl hc10 (.c rfl .nil) .nil ?_
       refine .gv (f_load (n := 0) (o := 4) (off := (0 + 0)) (p := [0]) (c := .d (eGShard x5)) (z := .d (eL72 x5.Lines)) (by rfl) rfl ty72 (by rfl)) rfl rfl rfl hc10 (.c rfl .nil) (.cons rfl .nil) ?_
       refine .gv (f_makeFunc (xs := []) (ys := [.ptr 1 0 [], .ptr 3 0 []]) (by rfl) rfl rfl (by rfl) (by rfl)) rfl rfl rfl hc10 (.c rfl (.c rfl .nil)) .nil ?_
       obtain ⟨y11, hy12, h⟩ := bind_some h
       refine .gw (f_callG0 (xs := [.d (eL72 x5.Lines), .fn (.func 80) [] [.ptr 1 0 [], .ptr 3 0 []]]) (r := .d (.val (.bool y11))) (fun i => bif Nat.beq i 1 then 3 else (bif Nat.beq i 0 then 1 else i)) [] hgl (by rfl) (cal_f en79) rfl (by rfl) (by rfl) (by rfl) (by rfl) (.cons (.same _) (.cons (.same _) .nil)) rfl rfl (F79_api_Line_c11_ok hy12)) rfl rfl rfl hc10 (.c rfl (.c rfl .nil)) (.cons rfl (.cons rfl .nil)) .nil ?_
       refine .v (f_pick_false (by rfl) hc10) rfl (.c rfl (.c rfl .nil)) .nil ?_
       refine .nil ?_
       obtain rfl := Option.some.inj h
       refine aq_weak (s' := ⟨[(1, .ptr 1 0 []), (13, .d (eL41 a0)), (14, .d (.val (.int .i64 ((a0).length : Int)))), (15, .d (.val (.int .i64 z0_0))), (28, .d (.val (.bool y11)))], [(1, .av (.d (eL41 a0)))], []⟩) id hb0 (.keep rfl (.keep rfl (.keep rfl (.keep rfl (.keep rfl .nil))))) (.keep rfl .nil) rfl (by rfl) ?_
       exact jq
     refine aq_then ?_
     refine aw_cond rfl (fun hc14 => ?_) (fun hc14 => ?_)
     · replace h := ite_t hc14 h
       refine aw_rs ?_
       refine .as rfl (by rfl) ?_
       refine .nil (aq_then ?_)
       refine aw_ret ?_
       refine aq_block_ret ?_
       refine aq_then_ret ?_
       obtain rfl := Option.some.inj h
       refine aq_weak (s' := ⟨[(2, .d (.val (.int .i64 (8 : Int))))], [], []⟩) id hb0 (.keep rfl .nil) .nil rfl (by rfl) ?_
       exact jq
     replace h := ite_f hc14 h
     refine aw_skip ?_
     refine aq_block ?_
     refine aq_then ?_
     refine aw_r ?_
     refine .v (f_binI (by rfl) rfl (by rfl)) rfl (.c rfl (.c rfl .nil)) .nil ?_
     refine .mv rfl (by rfl) ?_
     refine .nil ?_
     obtain rfl := Option.some.inj h
     refine aq_weak (s' := ⟨[(1, .ptr 1 0 []), (13, .d (eL41 a0)), (14, .d (.val (.int .i64 ((a0).length : Int)))), (15, .d (.val (.int .i64 (IntKind.i64.wrap (z0_0 + (1 : Int))))))], [(1, .av (.d (eL41 a0)))], []⟩) id hb0 (.keep rfl (.keep rfl (.keep rfl (.keep rfl .nil)))) (.keep rfl .nil) rfl (by rfl) ?_
     exact jq
   replace h := ite_f hc4 h
   refine aw_exit ?_
   refine aq_then_exit ?_
   obtain rfl := Option.some.inj h
   refine aq_weak (s' := ⟨[], [], []⟩) id hb0 .nil .nil rfl (by rfl) ?_
   exact jq
 rcases o16 with j16 | j16
 · replace h := elim_l h
   refine aq_block_exit ?_
   refine aq_then ?_
   refine aw_rs ?_
   refine .as rfl (by rfl) ?_
   refine .nil (aq_then ?_)
   refine aw_ret ?_
   obtain rfl := Option.some.inj h
   exact aq_finp hb0 rfl (.tmp rfl (by rfl) .nil) (by rfl) rfl ⟨rfl, rfl⟩
 replace h := elim_r h
 refine aq_block_ret ?_
 refine aq_then_ret ?_
 obtain rfl := Option.some.inj h
 exact aq_finp hb0 rfl (.tmp rfl (by rfl) .nil) (by rfl) rfl ⟨rfl, rfl⟩

/- 4: beadroll/beadrolllaw21.PoolTells -/
def F4_beadrolllaw21_PoolTells (n : Nat) (a0 : (List GShard)) (a1 : (List GShard)) (a2 : (List Int)) (a3 : Int) : Option (Bool) :=
  ((((F21_beadrollref21_Great n a0).bind fun (y1 : Bool) => (if y1 = true then some true else ((F21_beadrollref21_Great n a1).bind fun (y4 : Bool) => some y4)))).bind fun (o6 : Bool) => (if o6 = true then some true else ((F22_beadrollref21_Twin n a0).bind fun (y8 : (List GShard)) => ((F23_pool_At n a2 a3).bind fun (y10 : Int × Int) => ((F24_beadrollref21_At n a2 a3).bind fun (y12 : Int × Int) => ((F25_pool_New n a3).bind fun (y14 : (List GShard) × Int) => ((F26_beadrollref21_New n a3).bind fun (y16 : (List GShard) × Int) => (((if (y10.1 == y12.1) = true then (if (y10.2 == y12.2) = true then ((F27_beadrollref21_Same n y14.1 y16.1).bind fun (y20 : Bool) => (if y20 = true then some (y14.2 == y16.2) else some false)) else some false) else some false)).bind fun (o23 : Bool) => ((((F28_pool_Check n y8).bind fun (y24 : Int) => ((F29_beadrollref21_Check n a0).bind fun (y26 : Int) => (if (y24 == y26) = true then ((F30_pool_Count n y8).bind fun (y29 : Int) => ((F31_beadrollref21_Count n a0).bind fun (y31 : Int) => (if (y29 == y31) = true then ((F32_pool_Same n y8 a1).bind fun (y34 : Bool) => ((F27_beadrollref21_Same n a0 a1).bind fun (y36 : Bool) => (if (y34 == y36) = true then ((F32_pool_Same n y8 a0).bind fun (y39 : Bool) => some y39) else some false))) else some false))) else some false)))).bind fun (o41 : Bool) => (((if o23 = true then (if o41 = true then ((F33_pool_Twin n y8).bind fun (y44 : List GShard) => ((F27_beadrollref21_Same n y44 a0).bind fun (y46 : Bool) => (if y46 = true then ((F27_beadrollref21_Same n y8 a0).bind fun (y49 : Bool) => some y49) else some false))) else some false) else some false)).bind fun (o51 : Bool) => some o51))))))))))
theorem F4_beadrolllaw21_PoolTells_ok {n : Nat} {a0 : (List GShard)} {a1 : (List GShard)} {a2 : (List Int)} {a3 : Int} {r : Bool} (h : F4_beadrolllaw21_PoolTells n a0 a1 a2 a3 = some r) :
    ACall Tryd.prog GS 4 [.d (eL41 a0), .d (eL41 a1), .d (eA22 a2), .d (.val (.int .i64 a3))] [] (fun r' hp' => r' = .d (.val (.bool r)) ∧ hp' = []) := by
 refine acall_of_body mixed Tryd.func4 rfl (by rfl) ?_
 intro C hro hgl hb0
 unfold F4_beadrolllaw21_PoolTells at h
 refine aw_rs ?_
 refine .n (f_box 6 (by rfl) (by rfl)) rfl (.c rfl .nil) rfl ?_
 refine .as rfl (by rfl) ?_
 refine .nil (aq_then ?_)
 refine aw_seq ?_
 refine aw_seq ?_
 obtain ⟨o6, ho55, h⟩ := bind_some h
 refine aw_join (.normal) ⟨[(0, .d (eL41 a0)), (1, .d (eL41 a1)), (3, .d (.val (.int .i64 a3))), (6, .ptr 6 0 []), (25, .d (.val (.bool o6)))], [(6, .av (.d (eA22 a2)))], []⟩ ?_ ?_
 · replace h := ho55
   refine aw_r ?_
   refine .mv rfl (by rfl) ?_
   obtain ⟨y1, hy2, h⟩ := bind_some h
   refine .v (f_callP hgl (by rfl) en21 rfl (by rfl) (by rfl) (by rfl) (F21_beadrollref21_Great_ok hy2)) rfl (.c rfl .nil) .nil ?_
   refine .mv rfl (by rfl) ?_
   rcases Bool.eq_false_or_eq_true y1 with hc3 | hc3
   · replace h := ite_t hc3 h
     refine .off rfl rfl rfl hc3 rfl (by rfl) ?_
     refine .off rfl rfl rfl hc3 rfl (by rfl) ?_
     refine .v (f_pick_true (by rfl) hc3) rfl (.c rfl (.c rfl .nil)) .nil ?_
     refine .nil ?_
     obtain rfl := Option.some.inj h
     refine aq_weak (s' := ⟨[(0, .d (eL41 a0)), (1, .d (eL41 a1)), (3, .d (.val (.int .i64 a3))), (6, .ptr 6 0 []), (25, .d (.val (.bool true)))], [(6, .av (.d (eA22 a2)))], []⟩) id hb0 (.keep rfl (.keep rfl (.keep rfl (.keep rfl (.keep rfl .nil))))) (.keep rfl .nil) rfl (by rfl) ?_
     exact jq
   replace h := ite_f hc3 h
   refine .gv (f_move (by rfl)) rfl rfl rfl hc3 (.c rfl .nil) .nil ?_
   obtain ⟨y4, hy5, h⟩ := bind_some h
   refine .gv (f_callP hgl (by rfl) en21 rfl (by rfl) (by rfl) (by rfl) (F21_beadrollref21_Great_ok hy5)) rfl rfl rfl hc3 (.c rfl .nil) .nil ?_
   refine .v (f_pick_false (by rfl) hc3) rfl (.c rfl (.c rfl .nil)) .nil ?_
   refine .nil ?_
   obtain rfl := Option.some.inj h
   refine aq_weak (s' := ⟨[(0, .d (eL41 a0)), (1, .d (eL41 a1)), (3, .d (.val (.int .i64 a3))), (6, .ptr 6 0 []), (25, .d (.val (.bool y4)))], [(6, .av (.d (eA22 a2)))], []⟩) id hb0 (.keep rfl (.keep rfl (.keep rfl (.keep rfl (.keep rfl .nil))))) (.keep rfl .nil) rfl (by rfl) ?_
   exact jq
 refine aq_then ?_
 refine aw_cond rfl (fun hc7 => ?_) (fun hc7 => ?_)
 · replace h := ite_t hc7 h
   refine aw_rs ?_
   refine .as rfl (by rfl) ?_
   refine .nil (aq_then ?_)
   refine aw_ret ?_
   refine aq_then_ret ?_
   obtain rfl := Option.some.inj h
   exact aq_finp hb0 rfl (.tmp rfl (by rfl) .nil) (by rfl) rfl ⟨rfl, rfl⟩
 replace h := ite_f hc7 h
 refine aw_skip ?_
 refine aq_then ?_
 refine aw_rs ?_
 refine .mv rfl (by rfl) ?_
 obtain ⟨y8, hy9, h⟩ := bind_some h
 refine .v (f_callP hgl (by rfl) en22 rfl (by rfl) (by rfl) (by rfl) (F22_beadrollref21_Twin_ok hy9)) rfl (.c rfl .nil) .nil ?_
 refine .as rfl (by rfl) ?_
 refine .nil (aq_then ?_)
 refine aw_rs ?_
 refine .v (f_load (n := 0) (o := 6) (off := 0) (p := []) (c := .d (eA22 a2)) (z := .d (eA22 a2)) (by rfl) rfl ty23 (by rfl)) rfl (.c rfl .nil) (.cons rfl .nil) ?_
 refine .mv rfl (by rfl) ?_
 obtain ⟨y10, hy11, h⟩ := bind_some h
 refine .v (f_callP hgl (by rfl) en23 rfl (by rfl) (by rfl) (by rfl) (F23_pool_At_ok hy11)) rfl (.c rfl (.c rfl .nil)) .nil ?_
 refine .mv rfl (by rfl) ?_
 refine .v (f_extract (by rfl) rfl) rfl (.c rfl .nil) .nil ?_
 refine .v (f_extract (by rfl) rfl) rfl (.c rfl .nil) .nil ?_
 refine .as rfl (by rfl) ?_
 refine .as rfl (by rfl) ?_
 refine .nil (aq_then ?_)
 refine aw_rs ?_
 refine .v (f_load (n := 0) (o := 6) (off := 0) (p := []) (c := .d (eA22 a2)) (z := .d (eA22 a2)) (by rfl) rfl ty23 (by rfl)) rfl (.c rfl .nil) (.cons rfl .nil) ?_
 refine .mv rfl (by rfl) ?_
 obtain ⟨y12, hy13, h⟩ := bind_some h
 refine .v (f_callP hgl (by rfl) en24 rfl (by rfl) (by rfl) (by rfl) (F24_beadrollref21_At_ok hy13)) rfl (.c rfl (.c rfl .nil)) .nil ?_
 refine .mv rfl (by rfl) ?_
 refine .v (f_extract (by rfl) rfl) rfl (.c rfl .nil) .nil ?_
 refine .v (f_extract (by rfl) rfl) rfl (.c rfl .nil) .nil ?_
 refine .as rfl (by rfl) ?_
 refine .as rfl (by rfl) ?_
 refine .nil (aq_then ?_)
 refine aw_rs ?_
 refine .mv rfl (by rfl) ?_
 obtain ⟨y14, hy15, h⟩ := bind_some h
 refine .v (f_callP hgl (by rfl) en25 rfl (by rfl) (by rfl) (by rfl) (F25_pool_New_ok hy15)) rfl (.c rfl .nil) .nil ?_
 refine .mv rfl (by rfl) ?_
 refine .v (f_extract (by rfl) rfl) rfl (.c rfl .nil) .nil ?_
 refine .v (f_extract (by rfl) rfl) rfl (.c rfl .nil) .nil ?_
 refine .as rfl (by rfl) ?_
 refine .as rfl (by rfl) ?_
 refine .nil (aq_then ?_)
 refine aw_rs ?_
 refine .mv rfl (by rfl) ?_
 obtain ⟨y16, hy17, h⟩ := bind_some h
 refine .v (f_callP hgl (by rfl) en26 rfl (by rfl) (by rfl) (by rfl) (F26_beadrollref21_New_ok hy17)) rfl (.c rfl .nil) .nil ?_
 refine .mv rfl (by rfl) ?_
 refine .v (f_extract (by rfl) rfl) rfl (.c rfl .nil) .nil ?_
 refine .v (f_extract (by rfl) rfl) rfl (.c rfl .nil) .nil ?_
 refine .as rfl (by rfl) ?_
 refine .as rfl (by rfl) ?_
 refine .nil (aq_then ?_)
 refine aw_seq ?_
 obtain ⟨o23, ho54, h⟩ := bind_some h
 refine aw_join (.normal) ⟨[(0, .d (eL41 a0)), (1, .d (eL41 a1)), (9, .d (eL41 y8)), (18, .d (.val (.bool o23)))], [], []⟩ ?_ ?_
 · replace h := ho54
   refine aw_r ?_
   refine .mv rfl (by rfl) ?_
   refine .mv rfl (by rfl) ?_
   refine .v (f_binI (by rfl) rfl (by rfl)) rfl (.c rfl (.c rfl .nil)) .nil ?_
   refine .mv rfl (by rfl) ?_
   rcases Bool.eq_false_or_eq_true (y10.1 == y12.1) with hc18 | hc18
   · replace h := ite_t hc18 h
     refine .gv (f_move (by rfl)) rfl rfl rfl hc18 (.c rfl .nil) .nil ?_
     refine .gv (f_move (by rfl)) rfl rfl rfl hc18 (.c rfl .nil) .nil ?_
     refine .gv (f_binI (by rfl) rfl (by rfl)) rfl rfl rfl hc18 (.c rfl (.c rfl .nil)) .nil ?_
     refine .v (f_pick_true (by rfl) hc18) rfl (.c rfl (.c rfl .nil)) .nil ?_
     refine .mv rfl (by rfl) ?_
     rcases Bool.eq_false_or_eq_true (y10.2 == y12.2) with hc19 | hc19
     · replace h := ite_t hc19 h
       refine .gv (f_move (by rfl)) rfl rfl rfl hc19 (.c rfl .nil) .nil ?_
       refine .gv (f_move (by rfl)) rfl rfl rfl hc19 (.c rfl .nil) .nil ?_
       obtain ⟨y20, hy21, h⟩ := bind_some h
       refine .gv (f_callP hgl (by rfl) en27 rfl (by rfl) (by rfl) (by rfl) (F27_beadrollref21_Same_ok hy21)) rfl rfl rfl hc19 (.c rfl (.c rfl .nil)) .nil ?_
       refine .v (f_pick_true (by rfl) hc19) rfl (.c rfl (.c rfl .nil)) .nil ?_
       refine .mv rfl (by rfl) ?_
       rcases Bool.eq_false_or_eq_true y20 with hc22 | hc22
       · replace h := ite_t hc22 h
         refine .gv (f_move (by rfl)) rfl rfl rfl hc22 (.c rfl .nil) .nil ?_
         refine .gv (f_move (by rfl)) rfl rfl rfl hc22 (.c rfl .nil) .nil ?_
         refine .gv (f_binI (by rfl) rfl (by rfl)) rfl rfl rfl hc22 (.c rfl (.c rfl .nil)) .nil ?_
         refine .v (f_pick_true (by rfl) hc22) rfl (.c rfl (.c rfl .nil)) .nil ?_
         refine .as rfl (by rfl) ?_
         refine .nil ?_
         obtain rfl := Option.some.inj h
         refine aq_weak (s' := ⟨[(0, .d (eL41 a0)), (1, .d (eL41 a1)), (9, .d (eL41 y8)), (18, .d (.val (.bool (y14.2 == y16.2))))], [], []⟩) id hb0 (.keep rfl (.keep rfl (.keep rfl (.keep rfl .nil)))) .nil rfl (by rfl) ?_
         exact jq
       replace h := ite_f hc22 h
       refine .off rfl rfl rfl hc22 rfl (by rfl) ?_
       refine .off rfl rfl rfl hc22 rfl (by rfl) ?_
       refine .off rfl rfl rfl hc22 rfl (by rfl) ?_
       refine .v (f_pick_false (by rfl) hc22) rfl (.c rfl (.c rfl .nil)) .nil ?_
       refine .as rfl (by rfl) ?_
       refine .nil ?_
       obtain rfl := Option.some.inj h
       refine aq_weak (s' := ⟨[(0, .d (eL41 a0)), (1, .d (eL41 a1)), (9, .d (eL41 y8)), (18, .d (.val (.bool false)))], [], []⟩) id hb0 (.keep rfl (.keep rfl (.keep rfl (.keep rfl .nil)))) .nil rfl (by rfl) ?_
       exact jq
     replace h := ite_f hc19 h
     refine .off rfl rfl rfl hc19 rfl (by rfl) ?_
     refine .off rfl rfl rfl hc19 rfl (by rfl) ?_
     refine .off rfl rfl rfl hc19 rfl (by rfl) ?_
     refine .v (f_pick_false (by rfl) hc19) rfl (.c rfl (.c rfl .nil)) .nil ?_
     refine .mv rfl (by rfl) ?_
     refine .off rfl rfl rfl rfl rfl (by rfl) ?_
     refine .off rfl rfl rfl rfl rfl (by rfl) ?_
     refine .off rfl rfl rfl rfl rfl (by rfl) ?_
     refine .v (f_pick_false (by rfl) rfl) rfl (.c rfl (.c rfl .nil)) .nil ?_
     refine .as rfl (by rfl) ?_
     refine .nil ?_
     obtain rfl := Option.some.inj h
     refine aq_weak (s' := ⟨[(0, .d (eL41 a0)), (1, .d (eL41 a1)), (9, .d (eL41 y8)), (18, .d (.val (.bool false)))], [], []⟩) id hb0 (.keep rfl (.keep rfl (.keep rfl (.keep rfl .nil)))) .nil rfl (by rfl) ?_
     exact jq
   replace h := ite_f hc18 h
   refine .off rfl rfl rfl hc18 rfl (by rfl) ?_
   refine .off rfl rfl rfl hc18 rfl (by rfl) ?_
   refine .off rfl rfl rfl hc18 rfl (by rfl) ?_
   refine .v (f_pick_false (by rfl) hc18) rfl (.c rfl (.c rfl .nil)) .nil ?_
   refine .mv rfl (by rfl) ?_
   refine .off rfl rfl rfl rfl rfl (by rfl) ?_
   refine .off rfl rfl rfl rfl rfl (by rfl) ?_
   refine .off rfl rfl rfl rfl rfl (by rfl) ?_
   refine .v (f_pick_false (by rfl) rfl) rfl (.c rfl (.c rfl .nil)) .nil ?_
   refine .mv rfl (by rfl) ?_
   refine .off rfl rfl rfl rfl rfl (by rfl) ?_
   refine .off rfl rfl rfl rfl rfl (by rfl) ?_
   refine .off rfl rfl rfl rfl rfl (by rfl) ?_
   refine .v (f_pick_false (by rfl) rfl) rfl (.c rfl (.c rfl .nil)) .nil ?_
   refine .as rfl (by rfl) ?_
   refine .nil ?_
   obtain rfl := Option.some.inj h
   refine aq_weak (s' := ⟨[(0, .d (eL41 a0)), (1, .d (eL41 a1)), (9, .d (eL41 y8)), (18, .d (.val (.bool false)))], [], []⟩) id hb0 (.keep rfl (.keep rfl (.keep rfl (.keep rfl .nil)))) .nil rfl (by rfl) ?_
   exact jq
 refine aq_then ?_
 refine aw_seq ?_
 obtain ⟨o41, ho53, h⟩ := bind_some h
 refine aw_join (.normal) ⟨[(0, .d (eL41 a0)), (9, .d (eL41 y8)), (18, .d (.val (.bool o23))), (19, .d (.val (.bool o41)))], [], []⟩ ?_ ?_
 · replace h := ho53
   refine aw_r ?_
   refine .mv rfl (by rfl) ?_
   obtain ⟨y24, hy25, h⟩ := bind_some h
   refine .v (f_callP hgl (by rfl) en28 rfl (by rfl) (by rfl) (by rfl) (F28_pool_Check_ok hy25)) rfl (.c rfl .nil) .nil ?_
   refine .mv rfl (by rfl) ?_
   obtain ⟨y26, hy27, h⟩ := bind_some h
   refine .v (f_callP hgl (by rfl) en29 rfl (by rfl) (by rfl) (by rfl) (F29_beadrollref21_Check_ok hy27)) rfl (.c rfl .nil) .nil ?_
   refine .v (f_binI (by rfl) rfl (by rfl)) rfl (.c rfl (.c rfl .nil)) .nil ?_
   refine .mv rfl (by rfl) ?_
   rcases Bool.eq_false_or_eq_true (y24 == y26) with hc28 | hc28
   · replace h := ite_t hc28 h
     refine .gv (f_move (by rfl)) rfl rfl rfl hc28 (.c rfl .nil) .nil ?_
     obtain ⟨y29, hy30, h⟩ := bind_some h
     refine .gv (f_callP hgl (by rfl) en30 rfl (by rfl) (by rfl) (by rfl) (F30_pool_Count_ok hy30)) rfl rfl rfl hc28 (.c rfl .nil) .nil ?_
     refine .gv (f_move (by rfl)) rfl rfl rfl hc28 (.c rfl .nil) .nil ?_
     obtain ⟨y31, hy32, h⟩ := bind_some h
     refine .gv (f_callP hgl (by rfl) en31 rfl (by rfl) (by rfl) (by rfl) (F31_beadrollref21_Count_ok hy32)) rfl rfl rfl hc28 (.c rfl .nil) .nil ?_
     refine .gv (f_binI (by rfl) rfl (by rfl)) rfl rfl rfl hc28 (.c rfl (.c rfl .nil)) .nil ?_
     refine .v (f_pick_true (by rfl) hc28) rfl (.c rfl (.c rfl .nil)) .nil ?_
     refine .mv rfl (by rfl) ?_
     rcases Bool.eq_false_or_eq_true (y29 == y31) with hc33 | hc33
     · replace h := ite_t hc33 h
       refine .gv (f_move (by rfl)) rfl rfl rfl hc33 (.c rfl .nil) .nil ?_
       refine .gv (f_move (by rfl)) rfl rfl rfl hc33 (.c rfl .nil) .nil ?_
       obtain ⟨y34, hy35, h⟩ := bind_some h
       refine .gv (f_callP hgl (by rfl) en32 rfl (by rfl) (by rfl) (by rfl) (F32_pool_Same_ok hy35)) rfl rfl rfl hc33 (.c rfl (.c rfl .nil)) .nil ?_
       refine .gv (f_move (by rfl)) rfl rfl rfl hc33 (.c rfl .nil) .nil ?_
       refine .gv (f_move (by rfl)) rfl rfl rfl hc33 (.c rfl .nil) .nil ?_
       obtain ⟨y36, hy37, h⟩ := bind_some h
       refine .gv (f_callP hgl (by rfl) en27 rfl (by rfl) (by rfl) (by rfl) (F27_beadrollref21_Same_ok hy37)) rfl rfl rfl hc33 (.c rfl (.c rfl .nil)) .nil ?_
       refine .gv (f_eqlB (by rfl) un4) rfl rfl rfl hc33 (.c rfl (.c rfl .nil)) .nil ?_
       refine .v (f_pick_true (by rfl) hc33) rfl (.c rfl (.c rfl .nil)) .nil ?_
       refine .mv rfl (by rfl) ?_
       rcases Bool.eq_false_or_eq_true (y34 == y36) with hc38 | hc38
       · replace h := ite_t hc38 h
         refine .gv (f_move (by rfl)) rfl rfl rfl hc38 (.c rfl .nil) .nil ?_
         refine .gv (f_move (by rfl)) rfl rfl rfl hc38 (.c rfl .nil) .nil ?_
         obtain ⟨y39, hy40, h⟩ := bind_some h
         refine .gv (f_callP hgl (by rfl) en32 rfl (by rfl) (by rfl) (by rfl) (F32_pool_Same_ok hy40)) rfl rfl rfl hc38 (.c rfl (.c rfl .nil)) .nil ?_
         refine .v (f_pick_true (by rfl) hc38) rfl (.c rfl (.c rfl .nil)) .nil ?_
         refine .as rfl (by rfl) ?_
         refine .nil ?_
         obtain rfl := Option.some.inj h
         refine aq_weak (s' := ⟨[(0, .d (eL41 a0)), (9, .d (eL41 y8)), (18, .d (.val (.bool o23))), (19, .d (.val (.bool y39)))], [], []⟩) id hb0 (.keep rfl (.keep rfl (.keep rfl (.keep rfl .nil)))) .nil rfl (by rfl) ?_
         exact jq
       replace h := ite_f hc38 h
       refine .off rfl rfl rfl hc38 rfl (by rfl) ?_
       refine .off rfl rfl rfl hc38 rfl (by rfl) ?_
       refine .off rfl rfl rfl hc38 rfl (by rfl) ?_
       refine .v (f_pick_false (by rfl) hc38) rfl (.c rfl (.c rfl .nil)) .nil ?_
       refine .as rfl (by rfl) ?_
       refine .nil ?_
       obtain rfl := Option.some.inj h
       refine aq_weak (s' := ⟨[(0, .d (eL41 a0)), (9, .d (eL41 y8)), (18, .d (.val (.bool o23))), (19, .d (.val (.bool false)))], [], []⟩) id hb0 (.keep rfl (.keep rfl (.keep rfl (.keep rfl .nil)))) .nil rfl (by rfl) ?_
       exact jq
     replace h := ite_f hc33 h
     refine .off rfl rfl rfl hc33 rfl (by rfl) ?_
     refine .off rfl rfl rfl hc33 rfl (by rfl) ?_
     refine .off rfl rfl rfl hc33 rfl (by rfl) ?_
     refine .off rfl rfl rfl hc33 rfl (by rfl) ?_
     refine .off rfl rfl rfl hc33 rfl (by rfl) ?_
     refine .off rfl rfl rfl hc33 rfl (by rfl) ?_
     refine .off rfl rfl rfl hc33 rfl (by rfl) ?_
     refine .v (f_pick_false (by rfl) hc33) rfl (.c rfl (.c rfl .nil)) .nil ?_
     refine .mv rfl (by rfl) ?_
     refine .off rfl rfl rfl rfl rfl (by rfl) ?_
     refine .off rfl rfl rfl rfl rfl (by rfl) ?_
     refine .off rfl rfl rfl rfl rfl (by rfl) ?_
     refine .v (f_pick_false (by rfl) rfl) rfl (.c rfl (.c rfl .nil)) .nil ?_
     refine .as rfl (by rfl) ?_
     refine .nil ?_
     obtain rfl := Option.some.inj h
     refine aq_weak (s' := ⟨[(0, .d (eL41 a0)), (9, .d (eL41 y8)), (18, .d (.val (.bool o23))), (19, .d (.val (.bool false)))], [], []⟩) id hb0 (.keep rfl (.keep rfl (.keep rfl (.keep rfl .nil)))) .nil rfl (by rfl) ?_
     exact jq
   replace h := ite_f hc28 h
   refine .off rfl rfl rfl hc28 rfl (by rfl) ?_
   refine .off rfl rfl rfl hc28 rfl (by rfl) ?_
   refine .off rfl rfl rfl hc28 rfl (by rfl) ?_
   refine .off rfl rfl rfl hc28 rfl (by rfl) ?_
   refine .off rfl rfl rfl hc28 rfl (by rfl) ?_
   refine .v (f_pick_false (by rfl) hc28) rfl (.c rfl (.c rfl .nil)) .nil ?_
   refine .mv rfl (by rfl) ?_
   refine .off rfl rfl rfl rfl rfl (by rfl) ?_
   refine .off rfl rfl rfl rfl rfl (by rfl) ?_
   refine .off rfl rfl rfl rfl rfl (by rfl) ?_
   refine .off rfl rfl rfl rfl rfl (by rfl) ?_
   refine .off rfl rfl rfl rfl rfl (by rfl) ?_
   refine .off rfl rfl rfl rfl rfl (by rfl) ?_
   refine .off rfl rfl rfl rfl rfl (by rfl) ?_
   refine .v (f_pick_false (by rfl) rfl) rfl (.c rfl (.c rfl .nil)) .nil ?_
   refine .mv rfl (by rfl) ?_
   refine .off rfl rfl rfl rfl rfl (by rfl) ?_
   refine .off rfl rfl rfl rfl rfl (by rfl) ?_
   refine .off rfl rfl rfl rfl rfl (by rfl) ?_
   refine .v (f_pick_false (by rfl) rfl) rfl (.c rfl (.c rfl .nil)) .nil ?_
   refine .as rfl (by rfl) ?_
   refine .nil ?_
   obtain rfl := Option.some.inj h
   refine aq_weak (s' := ⟨[(0, .d (eL41 a0)), (9, .d (eL41 y8)), (18, .d (.val (.bool o23))), (19, .d (.val (.bool false)))], [], []⟩) id hb0 (.keep rfl (.keep rfl (.keep rfl (.keep rfl .nil)))) .nil rfl (by rfl) ?_
   exact jq
 refine aq_then ?_
 refine aw_seq ?_
 obtain ⟨o51, ho52, h⟩ := bind_some h
 refine aw_join (.normal) ⟨[(8, .d (.val (.bool o51)))], [], []⟩ ?_ ?_
 · replace h := ho52
   refine aw_r ?_
   refine .mv rfl (by rfl) ?_
   refine .mv rfl (by rfl) ?_
   rcases Bool.eq_false_or_eq_true o23 with hc42 | hc42
   · replace h := ite_t hc42 h
     refine .gv (f_move (by rfl)) rfl rfl rfl hc42 (.c rfl .nil) .nil ?_
     refine .v (f_pick_true (by rfl) hc42) rfl (.c rfl (.c rfl .nil)) .nil ?_
     refine .mv rfl (by rfl) ?_
     rcases Bool.eq_false_or_eq_true o41 with hc43 | hc43
     · replace h := ite_t hc43 h
       refine .gv (f_move (by rfl)) rfl rfl rfl hc43 (.c rfl .nil) .nil ?_
       obtain ⟨y44, hy45, h⟩ := bind_some h
       refine .gw (f_callG (xs := [.d (eL41 y8)]) (r := .slc 1096 0 ((y44).length) 1) (hw := [(1096, .av (.d (.arr 1 ((y44).length) ((y44).map eGShard))))]) (fun i => bif Nat.beq i 1087 then 1096 else i) [] hgl (by rfl) (cal_f en33) rfl (by rfl) (by rfl) (by rfl) (by rfl) (.cons (.same _) .nil) rfl rfl rfl rfl (F33_pool_Twin_ok hy45)) rfl rfl rfl hc43 (.c rfl .nil) .nil (.cons rfl .nil) ?_
       refine .gv (f_move (by rfl)) rfl rfl rfl hc43 (.c rfl .nil) .nil ?_
       obtain ⟨y46, hy47, h⟩ := bind_some h
       refine .gw (f_callH0 (xs := [.slc 1096 0 ((y44).length) 1, .d (eL41 a0)]) (r := .d (.val (.bool y46))) (hr := []) (fun i => i) [(1096, (.arr 1 ((y44).length) ((y44).map eGShard)))] hgl (by rfl) (cal_f en27) rfl (by rfl) (by rfl) (by rfl) (by rfl) (by rfl) (.cons (.whole (.head _)) (.cons (.same _) .nil)) rfl rfl (flat_val) trivial (F27_beadrollref21_Same_ok hy47)) rfl rfl rfl hc43 (.c rfl (.c rfl .nil)) (.cons rfl .nil) .nil ?_
       refine .v (f_pick_true (by rfl) hc43) rfl (.c rfl (.c rfl .nil)) .nil ?_
       refine .mv rfl (by rfl) ?_
       rcases Bool.eq_false_or_eq_true y46 with hc48 | hc48
       · replace h := ite_t hc48 h
         refine .gv (f_move (by rfl)) rfl rfl rfl hc48 (.c rfl .nil) .nil ?_
         refine .gv (f_move (by rfl)) rfl rfl rfl hc48 (.c rfl .nil) .nil ?_
         obtain ⟨y49, hy50, h⟩ := bind_some h
         refine .gv (f_callP hgl (by rfl) en27 rfl (by rfl) (by rfl) (by rfl) (F27_beadrollref21_Same_ok hy50)) rfl rfl rfl hc48 (.c rfl (.c rfl .nil)) .nil ?_
         refine .v (f_pick_true (by rfl) hc48) rfl (.c rfl (.c rfl .nil)) .nil ?_
         refine .as rfl (by rfl) ?_
         refine .nil ?_
         obtain rfl := Option.some.inj h
         refine aq_weak (s' := ⟨[(8, .d (.val (.bool y49)))], [], []⟩) id hb0 (.keep rfl .nil) .nil rfl (by rfl) ?_
         exact jq
       replace h := ite_f hc48 h
       refine .off rfl rfl rfl hc48 rfl (by rfl) ?_
       refine .off rfl rfl rfl hc48 rfl (by rfl) ?_
       refine .off rfl rfl rfl hc48 rfl (by rfl) ?_
       refine .v (f_pick_false (by rfl) hc48) rfl (.c rfl (.c rfl .nil)) .nil ?_
       refine .as rfl (by rfl) ?_
       refine .nil ?_
       obtain rfl := Option.some.inj h
       refine aq_weak (s' := ⟨[(8, .d (.val (.bool false)))], [], []⟩) id hb0 (.keep rfl .nil) .nil rfl (by rfl) ?_
       exact jq
     replace h := ite_f hc43 h
     refine .off rfl rfl rfl hc43 rfl (by rfl) ?_
     refine .off rfl rfl rfl hc43 rfl (by rfl) ?_
     refine .off rfl rfl rfl hc43 rfl (by rfl) ?_
     refine .off rfl rfl rfl hc43 rfl (by rfl) ?_
     refine .v (f_pick_false (by rfl) hc43) rfl (.c rfl (.c rfl .nil)) .nil ?_
     refine .mv rfl (by rfl) ?_
     refine .off rfl rfl rfl rfl rfl (by rfl) ?_
     refine .off rfl rfl rfl rfl rfl (by rfl) ?_
     refine .off rfl rfl rfl rfl rfl (by rfl) ?_
     refine .v (f_pick_false (by rfl) rfl) rfl (.c rfl (.c rfl .nil)) .nil ?_
     refine .as rfl (by rfl) ?_
     refine .nil ?_
     obtain rfl := Option.some.inj h
     refine aq_weak (s' := ⟨[(8, .d (.val (.bool false)))], [], []⟩) id hb0 (.keep rfl .nil) .nil rfl (by rfl) ?_
     exact jq
   replace h := ite_f hc42 h
   refine .off rfl rfl rfl hc42 rfl (by rfl) ?_
   refine .v (f_pick_false (by rfl) hc42) rfl (.c rfl (.c rfl .nil)) .nil ?_
   refine .mv rfl (by rfl) ?_
   refine .off rfl rfl rfl rfl rfl (by rfl) ?_
   refine .off rfl rfl rfl rfl rfl (by rfl) ?_
   refine .off rfl rfl rfl rfl rfl (by rfl) ?_
   refine .off rfl rfl rfl rfl rfl (by rfl) ?_
   refine .v (f_pick_false (by rfl) rfl) rfl (.c rfl (.c rfl .nil)) .nil ?_
   refine .mv rfl (by rfl) ?_
   refine .off rfl rfl rfl rfl rfl (by rfl) ?_
   refine .off rfl rfl rfl rfl rfl (by rfl) ?_
   refine .off rfl rfl rfl rfl rfl (by rfl) ?_
   refine .v (f_pick_false (by rfl) rfl) rfl (.c rfl (.c rfl .nil)) .nil ?_
   refine .as rfl (by rfl) ?_
   refine .nil ?_
   obtain rfl := Option.some.inj h
   refine aq_weak (s' := ⟨[(8, .d (.val (.bool false)))], [], []⟩) id hb0 (.keep rfl .nil) .nil rfl (by rfl) ?_
   exact jq
 refine aq_then ?_
 refine aw_ret ?_
 obtain rfl := Option.some.inj h
 exact aq_finp hb0 rfl (.tmp rfl (by rfl) .nil) (by rfl) rfl ⟨rfl, rfl⟩
end Go.Proofs.YtonfljoibcnlgaaDoor
