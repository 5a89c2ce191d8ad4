/-
  PRINTED by wip/pr3.py: for each Go function a Lean function with the same answers, and the proof.
-/
import Derived.Test.YtonfljoibcnlgaaDoorXh
namespace Go.Proofs.YtonfljoibcnlgaaDoor
open Bd
set_option maxRecDepth 10000

structure Gshard_part where
  Shard : GShard
  deriving DecidableEq, Inhabited
@[reducible] def eGshard_part (x : Gshard_part) : D := .st [eGShard x.Shard]

theorem en96 : enterB Tryd.prog 96 = true := by kernel_rfl
theorem en18 : enterB Tryd.prog 18 = true := by kernel_rfl
theorem ty74 : tyB Tryd.prog 74 = some (true, 1) := by kernel_rfl
theorem pl26_1 : placeB Tryd.prog 26 1 = some (32, 1) := by kernel_rfl
theorem pl26_0 : placeB Tryd.prog 26 0 = some (0, 32) := by kernel_rfl
theorem ag26 : aggB Tryd.prog 26 = true := by kernel_rfl
theorem en76 : enterB Tryd.prog 76 = true := by kernel_rfl
theorem en47 : enterB Tryd.prog 47 = true := by kernel_rfl
theorem zrv74 : ∃ zv, zeroB Tryd.prog 74 = some zv ∧ ∀ F μ w, RA F μ w (.st [.d (.val (.slice none 0 0))]) zv.cells.toList := zero_st (ds := [(.val (.slice none 0 0))]) (zero_mk' (by kernel_rfl) (by kernel_rfl))
theorem pl74_0 : placeB Tryd.prog 74 0 = some (0, 1) := by kernel_rfl
theorem ag74 : aggB Tryd.prog 74 = true := by kernel_rfl
theorem en100 : enterB Tryd.prog 100 = true := by kernel_rfl
theorem en147 : enterB Tryd.prog 147 = true := by kernel_rfl
theorem fl132_0 : fieldB Tryd.prog 132 0 = some (0, true, 1) := by kernel_rfl
theorem en112 : enterB Tryd.prog 112 = true := by kernel_rfl
theorem en119 : enterB Tryd.prog 119 = true := by kernel_rfl
theorem pl24_0 : placeB Tryd.prog 24 0 = some (0, 99) := by kernel_rfl
theorem zel24 : zelB Tryd.prog 24 = some (D.cells (.st [(eA22 (List.replicate 32 (0 : Int))), (eA22 (List.replicate 32 (0 : Int))), (.val (.int .u64 (0 : Int))), (.val (.int .u64 (0 : Int))), (.val (.int .u64 (0 : Int))), (eA22 (List.replicate 32 (0 : Int)))])) := by kernel_rfl
theorem en83 : enterB Tryd.prog 83 = true := by kernel_rfl
theorem en75 : enterB Tryd.prog 75 = true := by kernel_rfl
theorem en74 : enterB Tryd.prog 74 = true := by kernel_rfl
theorem en53 : enterB Tryd.prog 53 = true := by kernel_rfl
theorem ty130 : tyB Tryd.prog 130 = some (false, 1) := by kernel_rfl
theorem en120 : enterB Tryd.prog 120 = true := by kernel_rfl
theorem en121 : enterB Tryd.prog 121 = true := by kernel_rfl
theorem en122 : enterB Tryd.prog 122 = true := by kernel_rfl
theorem pl72_0 : placeB Tryd.prog 72 0 = some (0, 33) := by kernel_rfl
theorem zel72 : zelB Tryd.prog 72 = some (D.cells (.st [(eA22 (List.replicate 32 (0 : Int))), (.val (.slice none 0 0))])) := by kernel_rfl
theorem en95 : enterB Tryd.prog 95 = true := by kernel_rfl
theorem en94 : enterB Tryd.prog 94 = true := by kernel_rfl
theorem en34 : enterB Tryd.prog 34 = true := by kernel_rfl
theorem en93 : enterB Tryd.prog 93 = true := by kernel_rfl
theorem pl132_0 : placeB Tryd.prog 132 0 = some (0, 1) := by kernel_rfl
theorem zrv132 : ∃ zv, zeroB Tryd.prog 132 = some zv ∧ ∀ F μ w, RA F μ w (.st [.st [.d (.val (.slice none 0 0))]]) zv.cells.toList := zero_stN (z := .st [.st [(.val (.slice none 0 0))]]) (zero_mk' (by kernel_rfl) (by kernel_rfl)) (.st (.cons (.st (.cons (.same _) .nil)) .nil))
theorem ag132 : aggB Tryd.prog 132 = true := by kernel_rfl
theorem en61 : enterB Tryd.prog 61 = true := by kernel_rfl
theorem en52 : enterB Tryd.prog 52 = true := by kernel_rfl
theorem en50 : enterB Tryd.prog 50 = true := by kernel_rfl
theorem en71 : enterB Tryd.prog 71 = true := by kernel_rfl
theorem en20 : enterB Tryd.prog 20 = true := by kernel_rfl
theorem en70 : enterB Tryd.prog 70 = true := by kernel_rfl
theorem en49 : enterB Tryd.prog 49 = true := by kernel_rfl
theorem en51 : enterB Tryd.prog 51 = true := by kernel_rfl
theorem en48 : enterB Tryd.prog 48 = true := by kernel_rfl

/- 52: beadroll/shard.Check -/
def F52_shard_Check_s0 (n : Nat) (a0 : GShard) (z0_0 : Int) : Option ((Int) ⊕ ((Unit) ⊕ (Unit))) :=
  (if (decide (z0_0 < ((a0.Lines).length : Int))) = true then ((rd a0.Lines z0_0).bind fun (x2 : GLine) => (((if (((x2.Txs).length : Int) == (0 : Int)) = true then some true else ((F18_queue_Check n x2).bind fun (y6 : Int) => (if (y6 != (0 : Int)) = true then some true else (if (decide (z0_0 > (0 : Int))) = true then ((rd a0.Lines (IntKind.i64.wrap (z0_0 - (1 : Int)))).bind fun (x10 : GLine) => ((F96_path_Ahead n x10.From x2.From).bind fun (y13 : Bool) => some (!y13))) else some false))))).bind fun (o15 : Bool) => (if o15 = true then some (.inr (.inr ())) else some (.inl (IntKind.i64.wrap (z0_0 + (1 : Int))))))) else some (.inr (.inl ())))
def F52_shard_Check (n : Nat) (a0 : GShard) : Option (Int) :=
  ((loopF (fun (z : Int) => F52_shard_Check_s0 n a0 z) n (0 : Int)).bind (Sum.elim (fun (j18 : Unit) => some (0 : Int)) (fun (j18 : Unit) => some (8 : Int))))
theorem F52_shard_Check_ok {n : Nat} {a0 : GShard} {r : Int} (h : F52_shard_Check n a0 = some r) :
    ACall Tryd.prog GS 52 [.d (eGShard a0)] [] (fun r' hp' => r' = .d (.val (.int .i64 r)) ∧ hp' = []) := by
 refine acall_of_body mixed Tryd.func52 rfl (by rfl) ?_
 intro C hro hgl hb0
 unfold F52_shard_Check at h
 refine aw_rs ?_
 refine .n (f_box 1 (by rfl) (by rfl)) rfl (.c rfl .nil) rfl ?_
 refine .as rfl (by rfl) ?_
 refine .nil (aq_then ?_)
 refine aw_seq ?_
 refine aw_rs ?_
 refine .v (f_fieldAddr (n := 0) (by rfl) fl74_0 (by decide)) rfl (.c rfl .nil) .nil ?_
 refine .v (f_load (n := 0) (o := 1) (off := (0 + 0)) (p := [0]) (c := .d (eGShard a0)) (z := .d (eL72 a0.Lines)) (by rfl) rfl ty72 (by rfl)) rfl (.c rfl .nil) (.cons rfl .nil) ?_
 refine .v (f_lenD (n := (a0.Lines).length) (by rfl) sl72 rfl (by simp)) rfl (.c rfl .nil) .nil ?_
 refine .mv rfl (by rfl) ?_
 refine .nil (aq_then ?_)
 refine aw_block ?_
 refine aw_weak (s' := ⟨[(1, .ptr 1 0 []), (6, .d (eL72 a0.Lines)), (7, .d (.val (.int .i64 ((a0.Lines).length : Int)))), (8, .d (.val (.int .i64 (0 : Int))))], [(1, .av (.d (eGShard a0)))], []⟩) id hb0 (.keep rfl (.keep rfl (.keep rfl (.keep rfl .nil)))) (.keep rfl .nil) rfl (by rfl) ?_
 obtain ⟨o18, ho19, h⟩ := bind_some h
 refine aw_loopX (σ := Int) (fun z => ⟨[(1, .ptr 1 0 []), (6, .d (eL72 a0.Lines)), (7, .d (.val (.int .i64 ((a0.Lines).length : Int)))), (8, .d (.val (.int .i64 z)))], [(1, .av (.d (eGShard a0)))], []⟩) (Sum.elim (fun _ => .exit 0) (fun _ => .ret)) (Sum.elim (fun j18 => ⟨[], [], []⟩) (fun j18 => ⟨[(2, .d (.val (.int .i64 (8 : Int))))], [], []⟩)) ho19 (by intro b; rcases b with _ | _ <;> rfl) ?_ ?_
 · clear h ho19
   intro z0_0 o h
   change F52_shard_Check_s0 n a0 z0_0 = some o at h
   unfold F52_shard_Check_s0 at h
   show AW _ _ _ ⟨[(1, .ptr 1 0 []), (6, .d (eL72 a0.Lines)), (7, .d (.val (.int .i64 ((a0.Lines).length : Int)))), (8, .d (.val (.int .i64 z0_0)))], [(1, .av (.d (eGShard a0)))], []⟩
   refine aw_rs ?_
   refine .v (f_binI (by rfl) rfl (by rfl)) rfl (.c rfl (.c rfl .nil)) .nil ?_
   refine .nil (aq_then ?_)
   refine aw_seq ?_
   refine aw_cond rfl (fun hc1 => ?_) (fun hc1 => ?_)
   · replace h := ite_t hc1 h
     refine aw_skip ?_
     refine aq_then ?_
     refine aw_seq ?_
     refine aw_block ?_
     refine aw_rs ?_
     refine .mv rfl (by rfl) ?_
     obtain ⟨x2, hx3, h⟩ := bind_some h
     obtain ⟨hx4, hx3⟩ := rd_some hx3
     refine .v (f_indexS (by rfl) sl72 hx4 (rd_map _ hx3)) rfl (.c rfl (.c rfl .nil)) .nil ?_
     refine .v (f_loadR (z := (eGLine x2)) (by rfl) ty26) rfl (.c rfl .nil) .nil ?_
     refine .n (f_alloc 4 (by rfl) zrv26) rfl .nil rfl ?_
     refine .as rfl (by rfl) ?_
     refine .s (f_store (n := 0) (o := 4) (off := 0) (p := []) (c := .st [.d (eA22 (List.replicate 32 (0 : Int))), .d (.val (.slice none 0 0))]) (old := .st [.d (eA22 (List.replicate 32 (0 : Int))), .d (.val (.slice none 0 0))]) (z := .d (eGLine x2)) (c' := .d (eGLine x2)) rfl rfl (by rfl) ty26 (by rfl)) rfl (.c rfl (.c rfl .nil)) (.cons rfl .nil) ?_
     refine .nil (aq_then ?_)
     refine aw_seq ?_
     obtain ⟨o15, ho17, h⟩ := bind_some h
     refine aw_join (.normal) ⟨[(1, .ptr 1 0 []), (6, .d (eL72 a0.Lines)), (7, .d (.val (.int .i64 ((a0.Lines).length : Int)))), (8, .d (.val (.int .i64 z0_0))), (38, .d (.val (.bool o15)))], [(1, .av (.d (eGShard a0)))], []⟩ ?_ ?_
     · replace h := ho17
       refine aw_rd ?_
       refine .v (f_fieldAddr (n := 32) (by rfl) fl26_1 (by decide)) rfl (.c rfl .nil) .nil ?_
       refine .v (f_load (n := 0) (o := 4) (off := (0 + 32)) (p := [1]) (c := .d (eGLine x2)) (z := .d (eL24 x2.Txs)) (by rfl) rfl ty24 (by rfl)) rfl (.c rfl .nil) (.cons rfl .nil) ?_
       refine .v (f_lenD (n := (x2.Txs).length) (by rfl) sl24 rfl (by simp)) rfl (.c rfl .nil) .nil ?_
       refine .v (f_binI (by rfl) rfl (by rfl)) rfl (.c rfl (.c rfl .nil)) .nil ?_
       refine .v (f_move (by rfl)) rfl (.c rfl .nil) .nil ?_
       rcases Bool.eq_false_or_eq_true (((x2.Txs).length : Int) == (0 : Int)) with hc5 | hc5
       · replace h := ite_t hc5 h
         refine .off rfl rfl rfl hc5 rfl (by rfl) ?_
         refine .off rfl rfl rfl hc5 rfl (by rfl) ?_
         refine .off rfl rfl rfl hc5 rfl (by rfl) ?_
         refine .v (f_pick_true (by rfl) hc5) rfl (.c rfl (.c rfl .nil)) .nil ?_
         refine .v (f_move (by rfl)) rfl (.c rfl .nil) .nil ?_
         refine .off rfl rfl rfl rfl rfl (by rfl) ?_
         refine .off rfl rfl rfl rfl rfl (by rfl) ?_
         refine .off rfl rfl rfl rfl rfl (by rfl) ?_
         refine .offu rfl rfl rfl rfl (by rfl) ?_
         refine .offu rfl rfl rfl rfl (by rfl) ?_
         refine .offu rfl rfl rfl rfl (by rfl) ?_
         refine .offu rfl rfl rfl rfl (by rfl) ?_
         refine .offu rfl rfl rfl rfl (by rfl) ?_
         refine .offu rfl rfl rfl rfl (by rfl) ?_
         refine .offu rfl rfl rfl rfl (by rfl) ?_
         refine .offu rfl rfl rfl rfl (by rfl) ?_
         refine .offu rfl rfl rfl rfl (by rfl) ?_
         refine .offu rfl rfl rfl rfl (by rfl) ?_
         refine .offu rfl rfl rfl rfl (by rfl) ?_
         refine .off rfl rfl rfl rfl rfl (by rfl) ?_
         refine .v (f_pick_true (by rfl) rfl) rfl (.c rfl (.c rfl .nil)) .nil ?_
         refine .nil (by kernel_rfl) ?_
         obtain rfl := Option.some.inj h
         refine aq_weak (s' := ⟨[(1, .ptr 1 0 []), (6, .d (eL72 a0.Lines)), (7, .d (.val (.int .i64 ((a0.Lines).length : Int)))), (8, .d (.val (.int .i64 z0_0))), (38, .d (.val (.bool true)))], [(1, .av (.d (eGShard a0)))], []⟩) id hb0 (.keep rfl (.keep rfl (.keep rfl (.keep rfl (.keep rfl .nil))))) (.keep rfl .nil) rfl (by rfl) ?_
         exact jq
       replace h := ite_f hc5 h
       refine .gv (f_load (n := 0) (o := 4) (off := 0) (p := []) (c := .d (eGLine x2)) (z := .d (eGLine x2)) (by rfl) rfl ty26 (by rfl)) rfl rfl rfl hc5 (.c rfl .nil) (.cons rfl .nil) ?_
       obtain ⟨y6, hy7, h⟩ := bind_some h
       refine .gv (f_callP hgl (by rfl) en18 rfl (by rfl) (by rfl) (by rfl) (F18_queue_Check_ok hy7)) rfl rfl rfl hc5 (.c rfl .nil) .nil ?_
       refine .gv (f_binI (by rfl) rfl (by rfl)) rfl rfl rfl hc5 (.c rfl (.c rfl .nil)) .nil ?_
       refine .v (f_pick_false (by rfl) hc5) rfl (.c rfl (.c rfl .nil)) .nil ?_
       refine .v (f_move (by rfl)) rfl (.c rfl .nil) .nil ?_
       rcases Bool.eq_false_or_eq_true (y6 != (0 : Int)) with hc8 | hc8
       · replace h := ite_t hc8 h
         refine .off rfl rfl rfl hc8 rfl (by rfl) ?_
         refine .off rfl rfl rfl hc8 rfl (by rfl) ?_
         refine .off rfl rfl rfl hc8 rfl (by rfl) ?_
         refine .offu rfl rfl rfl rfl (by rfl) ?_
         refine .offu rfl rfl rfl rfl (by rfl) ?_
         refine .offu rfl rfl rfl rfl (by rfl) ?_
         refine .offu rfl rfl rfl rfl (by rfl) ?_
         refine .offu rfl rfl rfl rfl (by rfl) ?_
         refine .offu rfl rfl rfl rfl (by rfl) ?_
         refine .offu rfl rfl rfl rfl (by rfl) ?_
         refine .offu rfl rfl rfl rfl (by rfl) ?_
         refine .offu rfl rfl rfl rfl (by rfl) ?_
         refine .offu rfl rfl rfl rfl (by rfl) ?_
         refine .offu rfl rfl rfl rfl (by rfl) ?_
         refine .off rfl rfl rfl hc8 rfl (by rfl) ?_
         refine .v (f_pick_true (by rfl) hc8) rfl (.c rfl (.c rfl .nil)) .nil ?_
         refine .nil (by kernel_rfl) ?_
         obtain rfl := Option.some.inj h
         refine aq_weak (s' := ⟨[(1, .ptr 1 0 []), (6, .d (eL72 a0.Lines)), (7, .d (.val (.int .i64 ((a0.Lines).length : Int)))), (8, .d (.val (.int .i64 z0_0))), (38, .d (.val (.bool true)))], [(1, .av (.d (eGShard a0)))], []⟩) id hb0 (.keep rfl (.keep rfl (.keep rfl (.keep rfl (.keep rfl .nil))))) (.keep rfl .nil) rfl (by rfl) ?_
         exact jq
       replace h := ite_f hc8 h
       refine .gv (f_move (by rfl)) rfl rfl rfl hc8 (.c rfl .nil) .nil ?_
       refine .gv (f_binI (by rfl) rfl (by rfl)) rfl rfl rfl hc8 (.c rfl (.c rfl .nil)) .nil ?_
       refine .gv (f_move (by rfl)) rfl rfl rfl hc8 (.c rfl .nil) .nil ?_
       rcases Bool.eq_false_or_eq_true (decide (z0_0 > (0 : Int))) with hc9 | hc9
       · replace h := ite_t hc9 h
         refine .gv (f_fieldAddr (n := 0) (by rfl) fl74_0 (by decide)) rfl rfl rfl hc9 (.c rfl .nil) .nil ?_
         refine .gv (f_load (n := 0) (o := 1) (off := (0 + 0)) (p := [0]) (c := .d (eGShard a0)) (z := .d (eL72 a0.Lines)) (by rfl) rfl ty72 (by rfl)) rfl rfl rfl hc9 (.c rfl .nil) (.cons rfl .nil) ?_
         refine .gv (f_move (by rfl)) rfl rfl rfl hc9 (.c rfl .nil) .nil ?_
         refine .gv (f_binI (by rfl) rfl (by rfl)) rfl rfl rfl hc9 (.c rfl (.c rfl .nil)) .nil ?_
         obtain ⟨x10, hx11, h⟩ := bind_some h
         obtain ⟨hx12, hx11⟩ := rd_some hx11
         refine .gv (f_indexS (by rfl) sl72 hx12 (rd_map _ hx11)) rfl rfl rfl hc9 (.c rfl (.c rfl .nil)) .nil ?_
         refine .gv (f_fieldAddrR (by rfl) fl26_0 (by decide) rfl) rfl rfl rfl hc9 (.c rfl .nil) .nil ?_
         refine .gv (f_loadR (z := (eA22 x10.From)) (by rfl) ty23) rfl rfl rfl hc9 (.c rfl .nil) .nil ?_
         refine .gv (f_fieldAddr (n := 0) (by rfl) fl26_0 (by decide)) rfl rfl rfl hc9 (.c rfl .nil) .nil ?_
         refine .gv (f_load (n := 0) (o := 4) (off := (0 + 0)) (p := [0]) (c := .d (eGLine x2)) (z := .d (eA22 x2.From)) (by rfl) rfl ty23 (by rfl)) rfl rfl rfl hc9 (.c rfl .nil) (.cons rfl .nil) ?_
         obtain ⟨y13, hy14, h⟩ := bind_some h
         refine .gv (f_callP hgl (by rfl) en96 rfl (by rfl) (by rfl) (by rfl) (F96_path_Ahead_ok hy14)) rfl rfl rfl hc9 (.c rfl (.c rfl .nil)) .nil ?_
         refine .gv (f_not (by rfl)) rfl rfl rfl hc9 (.c rfl .nil) .nil ?_
         refine .gv (f_pick_true (by rfl) hc9) rfl rfl rfl hc8 (.c rfl (.c rfl .nil)) .nil ?_
         refine .v (f_pick_false (by rfl) hc8) rfl (.c rfl (.c rfl .nil)) .nil ?_
         refine .nil (by kernel_rfl) ?_
         obtain rfl := Option.some.inj h
         refine aq_weak (s' := ⟨[(1, .ptr 1 0 []), (6, .d (eL72 a0.Lines)), (7, .d (.val (.int .i64 ((a0.Lines).length : Int)))), (8, .d (.val (.int .i64 z0_0))), (38, .d (.val (.bool (!y13))))], [(1, .av (.d (eGShard a0)))], []⟩) id hb0 (.keep rfl (.keep rfl (.keep rfl (.keep rfl (.keep rfl .nil))))) (.keep rfl .nil) rfl (by rfl) ?_
         exact jq
       replace h := ite_f hc9 h
       refine .off rfl rfl rfl hc9 rfl (by rfl) ?_
       refine .off rfl rfl rfl hc9 rfl (by rfl) ?_
       refine .off rfl rfl rfl hc9 rfl (by rfl) ?_
       refine .off rfl rfl rfl hc9 rfl (by rfl) ?_
       refine .off rfl rfl rfl hc9 rfl (by rfl) ?_
       refine .off rfl rfl rfl hc9 rfl (by rfl) ?_
       refine .off rfl rfl rfl hc9 rfl (by rfl) ?_
       refine .off rfl rfl rfl hc9 rfl (by rfl) ?_
       refine .off rfl rfl rfl hc9 rfl (by rfl) ?_
       refine .off rfl rfl rfl hc9 rfl (by rfl) ?_
       refine .off rfl rfl rfl hc9 rfl (by rfl) ?_
       refine .gv (f_pick_false (by rfl) hc9) rfl rfl rfl hc8 (.c rfl (.c rfl .nil)) .nil ?_
       refine .v (f_pick_false (by rfl) hc8) rfl (.c rfl (.c rfl .nil)) .nil ?_
       refine .nil (by kernel_rfl) ?_
       obtain rfl := Option.some.inj h
       refine aq_weak (s' := ⟨[(1, .ptr 1 0 []), (6, .d (eL72 a0.Lines)), (7, .d (.val (.int .i64 ((a0.Lines).length : Int)))), (8, .d (.val (.int .i64 z0_0))), (38, .d (.val (.bool false)))], [(1, .av (.d (eGShard a0)))], []⟩) id hb0 (.keep rfl (.keep rfl (.keep rfl (.keep rfl (.keep rfl .nil))))) (.keep rfl .nil) rfl (by rfl) ?_
       exact jq
     refine aq_then ?_
     refine aw_cond rfl (fun hc16 => ?_) (fun hc16 => ?_)
     · replace h := ite_t hc16 h
       refine aw_rs ?_
       refine .as rfl (by rfl) ?_
       refine .nil (aq_then ?_)
       refine aw_ret ?_
       refine aq_block_ret ?_
       refine aq_then_ret ?_
       obtain rfl := Option.some.inj h
       refine aq_weak (s' := ⟨[(2, .d (.val (.int .i64 (8 : Int))))], [], []⟩) id hb0 (.keep rfl .nil) .nil rfl (by rfl) ?_
       exact jq
     replace h := ite_f hc16 h
     refine aw_skip ?_
     refine aq_block ?_
     refine aq_then ?_
     refine aw_r ?_
     refine .v (f_binI (by rfl) rfl (by rfl)) rfl (.c rfl (.c rfl .nil)) .nil ?_
     refine .mv rfl (by rfl) ?_
     refine .nil ?_
     obtain rfl := Option.some.inj h
     refine aq_weak (s' := ⟨[(1, .ptr 1 0 []), (6, .d (eL72 a0.Lines)), (7, .d (.val (.int .i64 ((a0.Lines).length : Int)))), (8, .d (.val (.int .i64 (IntKind.i64.wrap (z0_0 + (1 : Int))))))], [(1, .av (.d (eGShard a0)))], []⟩) id hb0 (.keep rfl (.keep rfl (.keep rfl (.keep rfl .nil)))) (.keep rfl .nil) rfl (by rfl) ?_
     exact jq
   replace h := ite_f hc1 h
   refine aw_exit ?_
   refine aq_then_exit ?_
   obtain rfl := Option.some.inj h
   refine aq_weak (s' := ⟨[], [], []⟩) id hb0 .nil .nil rfl (by rfl) ?_
   exact jq
 rcases o18 with j18 | j18
 · replace h := elim_l h
   refine aq_block_exit ?_
   refine aq_then ?_
   refine aw_rs ?_
   refine .as rfl (by rfl) ?_
   refine .nil (aq_then ?_)
   refine aw_ret ?_
   obtain rfl := Option.some.inj h
   exact aq_finp hb0 rfl (.tmp rfl (by rfl) .nil) (by rfl) rfl ⟨rfl, rfl⟩
 replace h := elim_r h
 refine aq_block_ret ?_
 refine aq_then_ret ?_
 obtain rfl := Option.some.inj h
 exact aq_finp hb0 rfl (.tmp rfl (by rfl) .nil) (by rfl) rfl ⟨rfl, rfl⟩

/- 47: beadroll/queue.Twin -/
def F47_queue_Twin (n : Nat) (a0 : GLine) : Option ((List Int) × List GTx) :=
  ((F76_Clone n a0.Txs).bind fun (y1 : List GTx) => some (a0.From, y1))
theorem F47_queue_Twin_ok {n : Nat} {a0 : GLine} {r : (List Int) × List GTx} (h : F47_queue_Twin n a0 = some r) :
    ACall Tryd.prog GS 47 [.d (eGLine a0)] [] (fun r' hp' => r' = .st [.d (eA22 r.1), .slc 1046 0 ((r.2).length) 99] ∧ hp' = [(2, .av (.st [.d (eA22 r.1), .slc 1046 0 ((r.2).length) 99])), (1046, .av (.d (.arr 99 ((r.2).length) ((r.2).map eGTx))))]) := by
 refine acall_of_body mixed Tryd.func47 rfl (by rfl) ?_
 intro C hro hgl hb0
 unfold F47_queue_Twin at h
 refine aw_rs ?_
 refine .n (f_box 1 (by rfl) (by rfl)) rfl (.c rfl .nil) rfl ?_
 refine .n (f_alloc 2 (by rfl) zrv26) rfl .nil rfl ?_
 refine .nil (aq_then ?_)
 refine aw_rds ?_
 refine .v (f_fieldAddr (n := 0) (by rfl) fl26_0 (by decide)) rfl (.c rfl .nil) .nil ?_
 refine .v (f_load (n := 0) (o := 1) (off := (0 + 0)) (p := [0]) (c := .d (eGLine a0)) (z := .d (eA22 a0.From)) (by rfl) rfl ty23 (by rfl)) rfl (.c rfl .nil) (.cons rfl .nil) ?_
 refine .v (f_fieldAddr (n := 32) (by rfl) fl26_1 (by decide)) rfl (.c rfl .nil) .nil ?_
 refine .v (f_load (n := 0) (o := 1) (off := (0 + 32)) (p := [1]) (c := .d (eGLine a0)) (z := .d (eL24 a0.Txs)) (by rfl) rfl ty24 (by rfl)) rfl (.c rfl .nil) (.cons rfl .nil) ?_
 obtain ⟨y1, hy2, h⟩ := bind_some h
 refine .w (f_callG (xs := [.d (eL24 a0.Txs)]) (r := .slc 1046 0 ((y1).length) 99) (hw := [(1046, .av (.d (.arr 99 ((y1).length) ((y1).map eGTx))))]) (fun i => bif Nat.beq i 0 then 1046 else i) [] hgl (by rfl) (cal_f en76) rfl (by rfl) (by rfl) (by rfl) (by rfl) (.cons (.same _) .nil) rfl rfl rfl rfl (F76_Clone_ok hy2)) rfl (.c rfl .nil) .nil (.cons rfl .nil) ?_
 refine .v (f_build (xs := [(0, .d (eA22 a0.From)), (1, .slc 1046 0 ((y1).length) 99)]) (z' := .st [.d (eA22 a0.From), .slc 1046 0 ((y1).length) 99]) (by rfl) zrv26 ag26 rfl (by rfl) ⟨_, _, _, rfl, pl26_0, rfl, rfl, ⟨_, _, _, rfl, pl26_1, rfl, rfl, trivial⟩⟩ (by rfl) (by rfl)) rfl (.c rfl (.c rfl .nil)) .nil ?_
 refine .s (f_store (n := 0) (o := 2) (off := 0) (p := []) (c := .st [.d (eA22 (List.replicate 32 (0 : Int))), .d (.val (.slice none 0 0))]) (old := .st [.d (eA22 (List.replicate 32 (0 : Int))), .d (.val (.slice none 0 0))]) (z := .st [.d (eA22 a0.From), .slc 1046 0 ((y1).length) 99]) (c' := .st [.d (eA22 a0.From), .slc 1046 0 ((y1).length) 99]) rfl rfl (by rfl) ty26 (by rfl)) rfl (.c rfl (.c rfl .nil)) (.cons rfl .nil) ?_
 refine .nil (by kernel_rfl) ?_
 refine aw_ret ?_
 obtain rfl := Option.some.inj h
 refine aq_weak (s' := ⟨[(2, .ptr 2 0 [])], [(2, .av (.st [.d (eA22 a0.From), .slc 1046 0 ((y1).length) 99])), (1046, .av (.d (.arr 99 ((y1).length) ((y1).map eGTx))))], []⟩) id hb0 (.keep rfl .nil) (.keep rfl (.keep rfl .nil)) rfl (by rfl) ?_
 exact aq_fin1 (.cell rfl rfl ty26 (by rfl) .nil) rfl ⟨rfl, rfl⟩

/- 61: beadroll/shard.Twin -/
def F61_shard_Twin_s0 (n : Nat) (y1 : List GLine) (z0_0 : Int) (z0_1 : List GLine) : Option ((Int × List GLine) ⊕ (List GLine)) :=
  (if (decide (z0_0 < ((y1).length : Int))) = true then ((rd z0_1 z0_0).bind fun (x4 : GLine) => ((F47_queue_Twin n x4).bind fun (y7 : (List Int) × List GTx) => ((rd z0_1 z0_0).bind fun (x9 : GLine) => some (.inl ((IntKind.i64.wrap (z0_0 + (1 : Int))), (z0_1.set (0 + (z0_0).toNat) (⟨y7.1, y7.2⟩ : GLine))))))) else some (.inr z0_1))
def F61_shard_Twin (n : Nat) (a0 : GShard) : Option (List GLine) :=
  ((F100_Clone n a0.Lines).bind fun (y1 : List GLine) => ((loopF (fun (z : Int × List GLine) => F61_shard_Twin_s0 n y1 z.1 z.2) n ((0 : Int), y1)).bind fun (o12 : List GLine) => some o12))
theorem F61_shard_Twin_ok {n : Nat} {a0 : GShard} {r : List GLine} (h : F61_shard_Twin n a0 = some r) :
    ACall Tryd.prog GS 61 [.d (eGShard a0)] [] (fun r' hp' => r' = .st [.slc 1045 0 ((r).length) 33] ∧ hp' = [(2, .av (.st [.slc 1045 0 ((r).length) 33])), (1045, .av (.d (.arr 33 ((r).length) ((r).map eGLine))))]) := by
 refine acall_of_body mixed Tryd.func61 rfl (by rfl) ?_
 intro C hro hgl hb0
 unfold F61_shard_Twin at h
 refine aw_rs ?_
 refine .n (f_box 1 (by rfl) (by rfl)) rfl (.c rfl .nil) rfl ?_
 refine .n (f_alloc 2 (by rfl) zrv74) rfl .nil rfl ?_
 refine .nil (aq_then ?_)
 refine aw_rs ?_
 refine .v (f_fieldAddr (n := 0) (by rfl) fl74_0 (by decide)) rfl (.c rfl .nil) .nil ?_
 refine .v (f_load (n := 0) (o := 1) (off := (0 + 0)) (p := [0]) (c := .d (eGShard a0)) (z := .d (eL72 a0.Lines)) (by rfl) rfl ty72 (by rfl)) rfl (.c rfl .nil) (.cons rfl .nil) ?_
 obtain ⟨y1, hy2, h⟩ := bind_some h
 refine .w (f_callG (xs := [.d (eL72 a0.Lines)]) (r := .slc 1045 0 ((y1).length) 33) (hw := [(1045, .av (.d (.arr 33 ((y1).length) ((y1).map eGLine))))]) (fun i => bif Nat.beq i 0 then 1045 else i) [] hgl (by rfl) (cal_f en100) rfl (by rfl) (by rfl) (by rfl) (by rfl) (.cons (.same _) .nil) rfl rfl rfl rfl (F100_Clone_ok hy2)) rfl (.c rfl .nil) .nil (.cons rfl .nil) ?_
 refine .v (f_build (xs := [(0, .slc 1045 0 ((y1).length) 33)]) (z' := .st [.slc 1045 0 ((y1).length) 33]) (by rfl) zrv74 ag74 rfl (by rfl) ⟨_, _, _, rfl, pl74_0, rfl, rfl, trivial⟩ (by rfl) (by rfl)) rfl (.c rfl .nil) .nil ?_
 refine .n (f_alloc 3 (by rfl) zrv74) rfl .nil rfl ?_
 refine .s (f_store (n := 0) (o := 3) (off := 0) (p := []) (c := .st [.d (.val (.slice none 0 0))]) (old := .st [.d (.val (.slice none 0 0))]) (z := .st [.slc 1045 0 ((y1).length) 33]) (c' := .st [.slc 1045 0 ((y1).length) 33]) rfl rfl (by rfl) ty74 (by rfl)) rfl (.c rfl (.c rfl .nil)) (.cons rfl .nil) ?_
 refine .nil (aq_then ?_)
 refine aw_seq ?_
 refine aw_rs ?_
 refine .v (f_fieldAddr (n := 0) (by rfl) fl74_0 (by decide)) rfl (.c rfl .nil) .nil ?_
 refine .v (f_load (n := 0) (o := 3) (off := (0 + 0)) (p := [0]) (c := .st [.slc 1045 0 ((y1).length) 33]) (z := .slc 1045 0 ((y1).length) 33) (by rfl) rfl ty72 (by rfl)) rfl (.c rfl .nil) (.cons rfl .nil) ?_
 refine .v (f_lenO (by rfl) sl72 rfl) rfl (.c rfl .nil) .nil ?_
 refine .mv rfl (by rfl) ?_
 refine .nil (aq_then ?_)
 refine aw_block ?_
 refine aw_weak (s' := ⟨[(2, .ptr 2 0 []), (3, .ptr 3 0 []), (11, .d (.val (.int .i64 ((y1).length : Int)))), (12, .d (.val (.int .i64 (0 : Int))))], [(2, .av (.st [.d (.val (.slice none 0 0))])), (3, .av (.st [.slc 1045 0 ((y1).length) 33])), (1045, .av (.d (.arr 33 ((y1).length) ((y1).map eGLine))))], []⟩) id hb0 (.keep rfl (.keep rfl (.keep rfl (.keep rfl .nil)))) (.keep rfl (.keep rfl (.keep rfl .nil))) rfl (by rfl) ?_
 obtain ⟨o12, ho13, h⟩ := bind_some h
 refine aw_loopX (σ := Int × List GLine) (fun z => ⟨[(2, .ptr 2 0 []), (3, .ptr 3 0 []), (11, .d (.val (.int .i64 ((y1).length : Int)))), (12, .d (.val (.int .i64 z.1)))], [(2, .av (.st [.d (.val (.slice none 0 0))])), (3, .av (.st [.slc 1045 0 ((z.2).length) 33])), (1045, .av (.d (.arr 33 ((z.2).length) ((z.2).map eGLine))))], []⟩) (fun _ => (.exit 0)) (fun (o12 : List GLine) => ⟨[(2, .ptr 2 0 []), (3, .ptr 3 0 [])], [(2, .av (.st [.d (.val (.slice none 0 0))])), (3, .av (.st [.slc 1045 0 ((o12).length) 33])), (1045, .av (.d (.arr 33 ((o12).length) ((o12).map eGLine))))], []⟩) ho13 (fun _ => rfl) ?_ ?_
 · clear h ho13
   rintro ⟨z0_0, z0_1⟩ o h
   change F61_shard_Twin_s0 n y1 z0_0 z0_1 = some o at h
   unfold F61_shard_Twin_s0 at h
   show AW _ _ _ ⟨[(2, .ptr 2 0 []), (3, .ptr 3 0 []), (11, .d (.val (.int .i64 ((y1).length : Int)))), (12, .d (.val (.int .i64 z0_0)))], [(2, .av (.st [.d (.val (.slice none 0 0))])), (3, .av (.st [.slc 1045 0 ((z0_1).length) 33])), (1045, .av (.d (.arr 33 ((z0_1).length) ((z0_1).map eGLine))))], []⟩
   refine aw_rs ?_
   refine .v (f_binI (by rfl) rfl (by rfl)) rfl (.c rfl (.c rfl .nil)) .nil ?_
   refine .nil (aq_then ?_)
   refine aw_seq ?_
   refine aw_cond rfl (fun hc3 => ?_) (fun hc3 => ?_)
   · replace h := ite_t hc3 h
     refine aw_skip ?_
     refine aq_then ?_
     refine aw_seq ?_
     refine aw_block ?_
     refine aw_rs ?_
     refine .mv rfl (by rfl) ?_
     refine .as rfl (by rfl) ?_
     refine .nil (aq_then ?_)
     refine aw_rd ?_
     refine .v (f_fieldAddr (n := 0) (by rfl) fl74_0 (by decide)) rfl (.c rfl .nil) .nil ?_
     refine .v (f_load (n := 0) (o := 3) (off := (0 + 0)) (p := [0]) (c := .st [.slc 1045 0 ((z0_1).length) 33]) (z := .slc 1045 0 ((z0_1).length) 33) (by rfl) rfl ty72 (by rfl)) rfl (.c rfl .nil) (.cons rfl .nil) ?_
     refine .v (f_move (by rfl)) rfl (.c rfl .nil) .nil ?_
     refine .v (f_fieldAddr (n := 0) (by rfl) fl74_0 (by decide)) rfl (.c rfl .nil) .nil ?_
     refine .v (f_load (n := 0) (o := 3) (off := (0 + 0)) (p := [0]) (c := .st [.slc 1045 0 ((z0_1).length) 33]) (z := .slc 1045 0 ((z0_1).length) 33) (by rfl) rfl ty72 (by rfl)) rfl (.c rfl .nil) (.cons rfl .nil) ?_
     refine .v (f_move (by rfl)) rfl (.c rfl .nil) .nil ?_
     obtain ⟨x4, hx5, h⟩ := bind_some h
     obtain ⟨hx6, hx5⟩ := rd_some hx5
     refine .v (f_indexSW (by rfl) sl72 hx6 (rd_map _ hx5)) rfl (.c rfl (.c rfl .nil)) (.cons rfl .nil) ?_
     refine .v (f_load (n := 0) (o := 1045) (off := ((0 + (z0_0).toNat) * 33)) (p := [0 + (z0_0).toNat]) (c := .d (.arr 33 ((z0_1).length) ((z0_1).map eGLine))) (z := .d (eGLine x4)) (by rfl) (at_map _ (by simpa using hx5) rfl) ty26 (by rfl)) rfl (.c rfl .nil) (.cons rfl .nil) ?_
     obtain ⟨y7, hy8, h⟩ := bind_some h
     refine .v (f_callP hgl (by rfl) en47 rfl (by rfl) (by rfl) (by rfl) (acall_frz (y := (eGLine (⟨y7.1, y7.2⟩ : GLine))) [(1046, (.arr 99 ((y7.2).length) ((y7.2).map eGTx)))] (.cons rfl .nil) (.st (.cons (.same _) (.cons (.whole (.head _)) .nil))) (F47_queue_Twin_ok hy8))) rfl (.c rfl .nil) .nil ?_
     obtain ⟨x9, hx10, h⟩ := bind_some h
     obtain ⟨hx11, hx10⟩ := rd_some hx10
     refine .v (f_indexSW (by rfl) sl72 hx11 (rd_map _ hx10)) rfl (.c rfl (.c rfl .nil)) (.cons rfl .nil) ?_
     refine .s (f_store (n := 0) (o := 1045) (off := ((0 + (z0_0).toNat) * 33)) (p := [0 + (z0_0).toNat]) (c := .d (.arr 33 ((z0_1).length) ((z0_1).map eGLine))) (old := .d (eGLine x9)) (z := .d (eGLine (⟨y7.1, y7.2⟩ : GLine))) (c' := .d (.arr 33 ((z0_1).length) (((z0_1.set (0 + (z0_0).toNat) (⟨y7.1, y7.2⟩ : GLine))).map eGLine))) (at_map _ (by simpa using hx10) rfl) (put_map _ (by simpa using hx10)) (by rfl) ty26 (by rfl)) rfl (.c rfl (.c rfl .nil)) (.cons rfl .nil) ?_
     refine .nil (by kernel_rfl) ?_
     refine aq_block ?_
     refine aq_then ?_
     refine aw_r ?_
     refine .v (f_binI (by rfl) rfl (by rfl)) rfl (.c rfl (.c rfl .nil)) .nil ?_
     refine .mv rfl (by rfl) ?_
     refine .nil ?_
     obtain rfl := Option.some.inj h
     refine aq_weak (s' := ⟨[(2, .ptr 2 0 []), (3, .ptr 3 0 []), (11, .d (.val (.int .i64 ((y1).length : Int)))), (12, .d (.val (.int .i64 (IntKind.i64.wrap (z0_0 + (1 : Int))))))], [(2, .av (.st [.d (.val (.slice none 0 0))])), (3, .av (.st [.slc 1045 0 (((z0_1.set (0 + (z0_0).toNat) (⟨y7.1, y7.2⟩ : GLine))).length) 33])), (1045, .av (.d (.arr 33 (((z0_1.set (0 + (z0_0).toNat) (⟨y7.1, y7.2⟩ : GLine))).length) (((z0_1.set (0 + (z0_0).toNat) (⟨y7.1, y7.2⟩ : GLine))).map eGLine))))], []⟩) id hb0 (.keep rfl (.keep rfl (.keep rfl (.keep rfl .nil)))) (.keep rfl (.keep (by simp only [List.length_set]; rfl) (.keep (by simp only [List.length_set]; rfl) .nil))) rfl (by rfl) ?_
     exact jq
   replace h := ite_f hc3 h
   refine aw_exit ?_
   refine aq_then_exit ?_
   obtain rfl := Option.some.inj h
   refine aq_weak (s' := ⟨[(2, .ptr 2 0 []), (3, .ptr 3 0 [])], [(2, .av (.st [.d (.val (.slice none 0 0))])), (3, .av (.st [.slc 1045 0 ((z0_1).length) 33])), (1045, .av (.d (.arr 33 ((z0_1).length) ((z0_1).map eGLine))))], []⟩) id hb0 (.keep rfl (.keep rfl .nil)) (.keep rfl (.keep rfl (.keep rfl .nil))) rfl (by rfl) ?_
   exact jq
 refine aq_block_exit ?_
 refine aq_then ?_
 refine aw_rs ?_
 refine .v (f_load (n := 0) (o := 3) (off := 0) (p := []) (c := .st [.slc 1045 0 ((o12).length) 33]) (z := .st [.slc 1045 0 ((o12).length) 33]) (by rfl) rfl ty74 (by rfl)) rfl (.c rfl .nil) (.cons rfl .nil) ?_
 refine .s (f_store (n := 0) (o := 2) (off := 0) (p := []) (c := .st [.d (.val (.slice none 0 0))]) (old := .st [.d (.val (.slice none 0 0))]) (z := .st [.slc 1045 0 ((o12).length) 33]) (c' := .st [.slc 1045 0 ((o12).length) 33]) rfl rfl (by rfl) ty74 (by rfl)) rfl (.c rfl (.c rfl .nil)) (.cons rfl .nil) ?_
 refine .nil (aq_then ?_)
 refine aw_ret ?_
 obtain rfl := Option.some.inj h
 refine aq_weak (s' := ⟨[(2, .ptr 2 0 [])], [(2, .av (.st [.slc 1045 0 ((o12).length) 33])), (1045, .av (.d (.arr 33 ((o12).length) ((o12).map eGLine))))], []⟩) id hb0 (.keep rfl .nil) (.keep rfl (.keep rfl .nil)) rfl (by rfl) ?_
 exact aq_fin1 (.cell rfl rfl ty74 (by rfl) .nil) rfl ⟨rfl, rfl⟩

/- 147: (*beadroll/shard.part).find$1 -/
def F147_shard_part_find_1_acc (n : Nat) (a0 : GLine) (a1 : (List Int)) : Option (Bool) :=
  ((F96_path_Ahead n a0.From a1).bind fun (y1 : Bool) => some (!y1))
theorem F147_shard_part_find_1_acc_ok {n : Nat} {a0 : GLine} {a1 : (List Int)} {r : Bool} (h : F147_shard_part_find_1_acc n a0 a1 = some r) :
    ACall Tryd.prog GS 147 [.d (eGLine a0), .ptr 0 0 []] [(0, .av (.d (eA22 a1)))] (fun r' hp' => r' = .d (.val (.bool r)) ∧ hp' = [(0, .av (.d (eA22 a1)))]) := by
 refine acall_of_body mixed Tryd.func147 rfl (by rfl) ?_
 intro C hro hgl hb0
 unfold F147_shard_part_find_1_acc at h
 refine aw_rs ?_
 refine .n (f_box 2 (by rfl) (by rfl)) rfl (.c rfl .nil) rfl ?_
 refine .as rfl (by rfl) ?_
 refine .nil (aq_then ?_)
 refine aw_rs ?_
 refine .v (f_fieldAddr (n := 0) (by rfl) fl26_0 (by decide)) rfl (.c rfl .nil) .nil ?_
 refine .v (f_load (n := 0) (o := 2) (off := (0 + 0)) (p := [0]) (c := .d (eGLine a0)) (z := .d (eA22 a0.From)) (by rfl) rfl ty23 (by rfl)) rfl (.c rfl .nil) (.cons rfl .nil) ?_
 refine .v (f_load (n := 0) (o := 0) (off := 0) (p := []) (c := .d (eA22 a1)) (z := .d (eA22 a1)) (by rfl) rfl ty23 (by rfl)) rfl (.c rfl .nil) (.cons rfl .nil) ?_
 obtain ⟨y1, hy2, h⟩ := bind_some h
 refine .v (f_callP hgl (by rfl) en96 rfl (by rfl) (by rfl) (by rfl) (F96_path_Ahead_ok hy2)) rfl (.c rfl (.c rfl .nil)) .nil ?_
 refine .v (f_not (by rfl)) rfl (.c rfl .nil) .nil ?_
 refine .as rfl (by rfl) ?_
 refine .nil (aq_then ?_)
 refine aw_ret ?_
 obtain rfl := Option.some.inj h
 refine aq_weak (s' := ⟨[(3, .d (.val (.bool (!y1))))], [(0, .av (.d (eA22 a1)))], []⟩) id hb0 (.keep rfl .nil) (.keep rfl .nil) rfl (by rfl) ?_
 exact aq_fin1 (.tmp rfl (by rfl) .nil) rfl ⟨rfl, rfl⟩

/- 112: slices.IndexFunc[[]beadroll/api.Line,beadroll/api.Line] -/
def F112_api_Line_65c_s0 (n : Nat) (a0 : (List GLine)) (a1 : (List Int)) (z0_0 : Int) : Option ((Int) ⊕ ((Unit) ⊕ (Int))) :=
  (if (decide (z0_0 < ((a0).length : Int))) = true then ((rd a0 z0_0).bind fun (x2 : GLine) => ((F147_shard_part_find_1_acc n x2 a1).bind fun (y5 : Bool) => (if y5 = true then some (.inr (.inr z0_0)) else some (.inl (IntKind.i64.wrap (z0_0 + (1 : Int))))))) else some (.inr (.inl ())))
def F112_api_Line_65c (n : Nat) (a0 : (List GLine)) (a1 : (List Int)) : Option (Int) :=
  ((loopF (fun (z : Int) => F112_api_Line_65c_s0 n a0 a1 z) n (0 : Int)).bind (Sum.elim (fun (j8 : Unit) => some (-1 : Int)) (fun (j8 : Int) => some j8)))
theorem F112_api_Line_65c_ok {n : Nat} {a0 : (List GLine)} {a1 : (List Int)} {r : Int} (h : F112_api_Line_65c n a0 a1 = some r) :
    ACall Tryd.prog GS 112 [.d (eL72 a0), .fn (.func 147) [] [.ptr 0 0 []]] [(0, .av (.d (eA22 a1)))] (fun r' hp' => r' = .d (.val (.int .i64 r)) ∧ hp' = [(0, .av (.d (eA22 a1)))]) := by
 refine acall_of_body mixed Tryd.func112 rfl (by rfl) ?_
 intro C hro hgl hb0
 unfold F112_api_Line_65c at h
 refine aw_rs ?_
 refine .as rfl (by rfl) ?_
 refine .nil (aq_then ?_)
 refine aw_seq ?_
 refine aw_rs ?_
 refine .mv rfl (by rfl) ?_
 refine .v (f_lenD (n := (a0).length) (by rfl) sl72 rfl (by simp)) rfl (.c rfl .nil) .nil ?_
 refine .mv rfl (by rfl) ?_
 refine .nil (aq_then ?_)
 refine aw_block ?_
 refine aw_weak (s' := ⟨[(0, .d (eL72 a0)), (1, .fn (.func 147) [] [.ptr 0 0 []]), (7, .d (.val (.int .i64 ((a0).length : Int)))), (8, .d (.val (.int .i64 (0 : Int))))], [(0, .av (.d (eA22 a1)))], []⟩) id hb0 (.keep rfl (.keep rfl (.keep rfl (.keep rfl .nil)))) (.keep rfl .nil) rfl (by rfl) ?_
 obtain ⟨o8, ho9, h⟩ := bind_some h
 refine aw_loopX (σ := Int) (fun z => ⟨[(0, .d (eL72 a0)), (1, .fn (.func 147) [] [.ptr 0 0 []]), (7, .d (.val (.int .i64 ((a0).length : Int)))), (8, .d (.val (.int .i64 z)))], [(0, .av (.d (eA22 a1)))], []⟩) (Sum.elim (fun _ => .exit 0) (fun _ => .ret)) (Sum.elim (fun j8 => ⟨[], [(0, .av (.d (eA22 a1)))], []⟩) (fun j8 => ⟨[(4, .d (.val (.int .i64 j8)))], [(0, .av (.d (eA22 a1)))], []⟩)) ho9 (by intro b; rcases b with _ | _ <;> rfl) ?_ ?_
 · clear h ho9
   intro z0_0 o h
   change F112_api_Line_65c_s0 n a0 a1 z0_0 = some o at h
   unfold F112_api_Line_65c_s0 at h
   show AW _ _ _ ⟨[(0, .d (eL72 a0)), (1, .fn (.func 147) [] [.ptr 0 0 []]), (7, .d (.val (.int .i64 ((a0).length : Int)))), (8, .d (.val (.int .i64 z0_0)))], [(0, .av (.d (eA22 a1)))], []⟩
   refine aw_rs ?_
   refine .v (f_binI (by rfl) rfl (by rfl)) rfl (.c rfl (.c rfl .nil)) .nil ?_
   refine .nil (aq_then ?_)
   refine aw_seq ?_
   refine aw_cond rfl (fun hc1 => ?_) (fun hc1 => ?_)
   · replace h := ite_t hc1 h
     refine aw_skip ?_
     refine aq_then ?_
     refine aw_seq ?_
     refine aw_block ?_
     refine aw_rs ?_
     refine .mv rfl (by rfl) ?_
     refine .as rfl (by rfl) ?_
     refine .nil (aq_then ?_)
     refine aw_rs ?_
     refine .mv rfl (by rfl) ?_
     refine .mv rfl (by rfl) ?_
     refine .mv rfl (by rfl) ?_
     obtain ⟨x2, hx3, h⟩ := bind_some h
     obtain ⟨hx4, hx3⟩ := rd_some hx3
     refine .v (f_indexS (by rfl) sl72 hx4 (rd_map _ hx3)) rfl (.c rfl (.c rfl .nil)) .nil ?_
     refine .v (f_loadR (z := (eGLine x2)) (by rfl) ty26) rfl (.c rfl .nil) .nil ?_
     obtain ⟨y5, hy6, h⟩ := bind_some h
     refine .w (f_callG0 (xs := [.d (eGLine x2)]) (r := .d (.val (.bool y5))) (fun i => i) [] hgl (by rfl) (cal_v (first := []) (caps := [.ptr 0 0 []]) en147) rfl (by rfl) (by rfl) (by rfl) (by rfl) (.cons (.same _) (.cons (.same _) .nil)) rfl rfl (F147_shard_part_find_1_acc_ok hy6)) rfl (.c rfl (.c rfl .nil)) (.cons rfl .nil) .nil ?_
     refine .nil (aq_then ?_)
     refine aw_cond rfl (fun hc7 => ?_) (fun hc7 => ?_)
     · replace h := ite_t hc7 h
       refine aw_rs ?_
       refine .mv rfl (by rfl) ?_
       refine .as rfl (by rfl) ?_
       refine .nil (aq_then ?_)
       refine aw_ret ?_
       refine aq_block_ret ?_
       refine aq_then_ret ?_
       obtain rfl := Option.some.inj h
       refine aq_weak (s' := ⟨[(4, .d (.val (.int .i64 z0_0)))], [(0, .av (.d (eA22 a1)))], []⟩) id hb0 (.keep rfl .nil) (.keep rfl .nil) rfl (by rfl) ?_
       exact jq
     replace h := ite_f hc7 h
     refine aw_skip ?_
     refine aq_block ?_
     refine aq_then ?_
     refine aw_r ?_
     refine .v (f_binI (by rfl) rfl (by rfl)) rfl (.c rfl (.c rfl .nil)) .nil ?_
     refine .mv rfl (by rfl) ?_
     refine .nil ?_
     obtain rfl := Option.some.inj h
     refine aq_weak (s' := ⟨[(0, .d (eL72 a0)), (1, .fn (.func 147) [] [.ptr 0 0 []]), (7, .d (.val (.int .i64 ((a0).length : Int)))), (8, .d (.val (.int .i64 (IntKind.i64.wrap (z0_0 + (1 : Int))))))], [(0, .av (.d (eA22 a1)))], []⟩) id hb0 (.keep rfl (.keep rfl (.keep rfl (.keep rfl .nil)))) (.keep rfl .nil) rfl (by rfl) ?_
     exact jq
   replace h := ite_f hc1 h
   refine aw_exit ?_
   refine aq_then_exit ?_
   obtain rfl := Option.some.inj h
   refine aq_weak (s' := ⟨[], [(0, .av (.d (eA22 a1)))], []⟩) id hb0 .nil (.keep rfl .nil) rfl (by rfl) ?_
   exact jq
 rcases o8 with j8 | j8
 · replace h := elim_l h
   refine aq_block_exit ?_
   refine aq_then ?_
   refine aw_rs ?_
   refine .as rfl (by rfl) ?_
   refine .nil (aq_then ?_)
   refine aw_ret ?_
   obtain rfl := Option.some.inj h
   refine aq_weak (s' := ⟨[(4, .d (.val (.int .i64 (-1 : Int))))], [(0, .av (.d (eA22 a1)))], []⟩) id hb0 (.keep rfl .nil) (.keep rfl .nil) rfl (by rfl) ?_
   exact aq_fin1 (.tmp rfl (by rfl) .nil) rfl ⟨rfl, rfl⟩
 replace h := elim_r h
 refine aq_block_ret ?_
 refine aq_then_ret ?_
 obtain rfl := Option.some.inj h
 refine aq_weak (s' := ⟨[(4, .d (.val (.int .i64 j8)))], [(0, .av (.d (eA22 a1)))], []⟩) id hb0 (.keep rfl .nil) (.keep rfl .nil) rfl (by rfl) ?_
 exact aq_fin1 (.tmp rfl (by rfl) .nil) rfl ⟨rfl, rfl⟩

/- 119: (*beadroll/shard.part).find -/
def F119_shard_part_find_363 (n : Nat) (a0 : (List Int)) (a1 : (List GLine)) : Option (Int × Bool) :=
  ((F112_api_Line_65c n a1 a0).bind fun (y1 : Int) => (if (decide (y1 < (0 : Int))) = true then some (((a1).length : Int), false) else ((rd a1 y1).bind fun (x4 : GLine) => some (y1, (decide (x4.From = a0))))))
theorem F119_shard_part_find_363_ok {n : Nat} {a0 : (List Int)} {a1 : (List GLine)} {r : Int × Bool} (h : F119_shard_part_find_363 n a0 a1 = some r) :
    ACall Tryd.prog GS 119 [.ptr 0 0 [], .d (eA22 a0)] [(0, .av (.st [.st [.slc 1 0 ((a1).length) 33]])), (1, .av (.d (.arr 33 ((a1).length) ((a1).map eGLine))))] (fun r' hp' => r' = .res [.d (.val (.int .i64 r.1)), .d (.val (.bool r.2))] ∧ hp' = [(0, .av (.st [.st [.slc 1 0 ((a1).length) 33]])), (1, .av (.d (.arr 33 ((a1).length) ((a1).map eGLine))))]) := by
 refine acall_of_body mixed Tryd.func119 rfl (by rfl) ?_
 intro C hro hgl hb0
 unfold F119_shard_part_find_363 at h
 refine aw_rs ?_
 refine .n (f_box 3 (by rfl) (by rfl)) rfl (.c rfl .nil) rfl ?_
 refine .as rfl (by rfl) ?_
 refine .as rfl (by rfl) ?_
 refine .nil (aq_then ?_)
 refine aw_rs ?_
 refine .mv rfl (by rfl) ?_
 refine .v (f_nilCheck (by rfl)) rfl (.c rfl .nil) .nil ?_
 refine .v (f_fieldAddr (n := 0) (by rfl) fl132_0 (by decide)) rfl (.c rfl .nil) .nil ?_
 refine .v (f_fieldAddr (n := 0) (by rfl) fl74_0 (by decide)) rfl (.c rfl .nil) .nil ?_
 refine .v (f_load (n := 0) (o := 0) (off := ((0 + 0) + 0)) (p := [0, 0]) (c := .st [.st [.slc 1 0 ((a1).length) 33]]) (z := .slc 1 0 ((a1).length) 33) (by rfl) rfl ty72 (by rfl)) rfl (.c rfl .nil) (.cons rfl .nil) ?_
 refine .v (f_makeFunc (xs := []) (ys := [.ptr 3 0 []]) (by rfl) rfl rfl (by rfl) (by rfl)) rfl (.c rfl .nil) .nil ?_
 obtain ⟨y1, hy2, h⟩ := bind_some h
 refine .w (f_callH0 (xs := [.slc 1 0 ((a1).length) 33, .fn (.func 147) [] [.ptr 3 0 []]]) (r := .d (.val (.int .i64 y1))) (hr := [(3, .av (.d (eA22 a0)))]) (fun i => bif Nat.beq i 0 then 3 else i) [(1, (.arr 33 ((a1).length) ((a1).map eGLine)))] hgl (by rfl) (cal_f en112) rfl (by rfl) (by rfl) (by rfl) (by rfl) (by rfl) (.cons (.whole (.head _)) (.cons (.same _) .nil)) rfl rfl (flat_val) ⟨(fl_eA22 _), trivial⟩ (F112_api_Line_65c_ok hy2)) rfl (.c rfl (.c rfl .nil)) (.cons rfl (.cons rfl .nil)) .nil ?_
 refine .as rfl (by rfl) ?_
 refine .nil (aq_then ?_)
 refine aw_seq ?_
 refine aw_rs ?_
 refine .mv rfl (by rfl) ?_
 refine .v (f_binI (by rfl) rfl (by rfl)) rfl (.c rfl (.c rfl .nil)) .nil ?_
 refine .nil (aq_then ?_)
 refine aw_cond rfl (fun hc3 => ?_) (fun hc3 => ?_)
 · replace h := ite_t hc3 h
   refine aw_rs ?_
   refine .mv rfl (by rfl) ?_
   refine .v (f_nilCheck (by rfl)) rfl (.c rfl .nil) .nil ?_
   refine .v (f_fieldAddr (n := 0) (by rfl) fl132_0 (by decide)) rfl (.c rfl .nil) .nil ?_
   refine .v (f_fieldAddr (n := 0) (by rfl) fl74_0 (by decide)) rfl (.c rfl .nil) .nil ?_
   refine .v (f_load (n := 0) (o := 0) (off := ((0 + 0) + 0)) (p := [0, 0]) (c := .st [.st [.slc 1 0 ((a1).length) 33]]) (z := .slc 1 0 ((a1).length) 33) (by rfl) rfl ty72 (by rfl)) rfl (.c rfl .nil) (.cons rfl .nil) ?_
   refine .v (f_lenO (by rfl) sl72 rfl) rfl (.c rfl .nil) .nil ?_
   refine .as rfl (by rfl) ?_
   refine .as rfl (by rfl) ?_
   refine .nil (aq_then ?_)
   refine aw_ret ?_
   refine aq_then_ret ?_
   obtain rfl := Option.some.inj h
   refine aq_weak (s' := ⟨[(4, .d (.val (.int .i64 ((a1).length : Int)))), (5, .d (.val (.bool false)))], [(0, .av (.st [.st [.slc 1 0 ((a1).length) 33]])), (1, .av (.d (.arr 33 ((a1).length) ((a1).map eGLine))))], []⟩) id hb0 (.keep rfl (.keep rfl .nil)) (.keep rfl (.keep rfl .nil)) rfl (by rfl) ?_
   exact aq_fin1 (.tmp rfl (by rfl) (.tmp rfl (by rfl) .nil)) rfl ⟨rfl, rfl⟩
 replace h := ite_f hc3 h
 refine aw_skip ?_
 refine aq_then ?_
 refine aw_rds ?_
 refine .v (f_move (by rfl)) rfl (.c rfl .nil) .nil ?_
 refine .v (f_move (by rfl)) rfl (.c rfl .nil) .nil ?_
 refine .v (f_nilCheck (by rfl)) rfl (.c rfl .nil) .nil ?_
 refine .v (f_fieldAddr (n := 0) (by rfl) fl132_0 (by decide)) rfl (.c rfl .nil) .nil ?_
 refine .v (f_fieldAddr (n := 0) (by rfl) fl74_0 (by decide)) rfl (.c rfl .nil) .nil ?_
 refine .v (f_load (n := 0) (o := 0) (off := ((0 + 0) + 0)) (p := [0, 0]) (c := .st [.st [.slc 1 0 ((a1).length) 33]]) (z := .slc 1 0 ((a1).length) 33) (by rfl) rfl ty72 (by rfl)) rfl (.c rfl .nil) (.cons rfl .nil) ?_
 refine .v (f_move (by rfl)) rfl (.c rfl .nil) .nil ?_
 obtain ⟨x4, hx5, h⟩ := bind_some h
 obtain ⟨hx6, hx5⟩ := rd_some hx5
 refine .v (f_indexSW (by rfl) sl72 hx6 (rd_map _ hx5)) rfl (.c rfl (.c rfl .nil)) (.cons rfl .nil) ?_
 refine .v (f_fieldAddr (n := 0) (by rfl) fl26_0 (by decide)) rfl (.c rfl .nil) .nil ?_
 refine .v (f_load (n := 0) (o := 1) (off := (((0 + (y1).toNat) * 33) + 0)) (p := [0 + (y1).toNat, 0]) (c := .d (.arr 33 ((a1).length) ((a1).map eGLine))) (z := .d (eA22 x4.From)) (by rfl) (at_map2 eGLine (by simpa using hx5) rfl rfl) ty23 (by rfl)) rfl (.c rfl .nil) (.cons rfl .nil) ?_
 refine .v (f_load (n := 0) (o := 3) (off := 0) (p := []) (c := .d (eA22 a0)) (z := .d (eA22 a0)) (by rfl) rfl ty23 (by rfl)) rfl (.c rfl .nil) (.cons rfl .nil) ?_
 refine .v (f_eqlT (by rfl) (fit23 _) (fit23 _) (by rfl) (by rfl) gd23 (eq_eA22 _ _)) rfl (.c rfl (.c rfl .nil)) .nil ?_
 refine .v (f_assign (by rfl)) rfl (.c rfl .nil) .nil ?_
 refine .v (f_assign (by rfl)) rfl (.c rfl .nil) .nil ?_
 refine .nil (by kernel_rfl) ?_
 refine aw_ret ?_
 obtain rfl := Option.some.inj h
 refine aq_weak (s' := ⟨[(4, .d (.val (.int .i64 y1))), (5, .d (.val (.bool (decide (x4.From = a0)))))], [(0, .av (.st [.st [.slc 1 0 ((a1).length) 33]])), (1, .av (.d (.arr 33 ((a1).length) ((a1).map eGLine))))], []⟩) id hb0 (.keep rfl (.keep rfl .nil)) (.keep rfl (.keep rfl .nil)) rfl (by rfl) ?_
 exact aq_fin1 (.tmp rfl (by rfl) (.tmp rfl (by rfl) .nil)) rfl ⟨rfl, rfl⟩

/- 93: (*beadroll/shard.part).line -/
def F93_shard_part_line_ec6 (n : Nat) (a0 : (List Int)) (a1 : (List GLine)) : Option (GLine) :=
  ((F119_shard_part_find_363 n a0 a1).bind fun (y1 : Int × Bool) => (if (!y1.2) = true then some (⟨a0, []⟩ : GLine) else ((rd a1 y1.1).bind fun (x4 : GLine) => some x4)))
theorem F93_shard_part_line_ec6_ok {n : Nat} {a0 : (List Int)} {a1 : (List GLine)} {r : GLine} (h : F93_shard_part_line_ec6 n a0 a1 = some r) :
    ACall Tryd.prog GS 93 [.ptr 0 0 [], .d (eA22 a0)] [(0, .av (.st [.st [.slc 1 0 ((a1).length) 33]])), (1, .av (.d (.arr 33 ((a1).length) ((a1).map eGLine))))] (fun r' hp' => r' = .d (eGLine r) ∧ hp' = [(4, .av (.d (eGLine r))), (0, .av (.st [.st [.slc 1 0 ((a1).length) 33]])), (1, .av (.d (.arr 33 ((a1).length) ((a1).map eGLine))))]) := by
 refine acall_of_body mixed Tryd.func93 rfl (by rfl) ?_
 intro C hro hgl hb0
 unfold F93_shard_part_line_ec6 at h
 refine aw_rs ?_
 refine .n (f_box 3 (by rfl) (by rfl)) rfl (.c rfl .nil) rfl ?_
 refine .n (f_alloc 4 (by rfl) zrv26) rfl .nil rfl ?_
 refine .nil (aq_then ?_)
 refine aw_rs ?_
 refine .mv rfl (by rfl) ?_
 refine .v (f_load (n := 0) (o := 3) (off := 0) (p := []) (c := .d (eA22 a0)) (z := .d (eA22 a0)) (by rfl) rfl ty23 (by rfl)) rfl (.c rfl .nil) (.cons rfl .nil) ?_
 obtain ⟨y1, hy2, h⟩ := bind_some h
 refine .w (f_callG0 (xs := [.ptr 0 0 [], .d (eA22 a0)]) (r := .res [.d (.val (.int .i64 y1.1)), .d (.val (.bool y1.2))]) (fun i => i) [] hgl (by rfl) (cal_f en119) rfl (by rfl) (by rfl) (by rfl) (by rfl) (.cons (.same _) (.cons (.same _) .nil)) rfl rfl (F119_shard_part_find_363_ok hy2)) rfl (.c rfl (.c rfl .nil)) (.cons rfl (.cons rfl .nil)) .nil ?_
 refine .mv rfl (by rfl) ?_
 refine .v (f_extract (by rfl) rfl) rfl (.c rfl .nil) .nil ?_
 refine .v (f_extract (by rfl) rfl) rfl (.c rfl .nil) .nil ?_
 refine .as rfl (by rfl) ?_
 refine .as rfl (by rfl) ?_
 refine .nil (aq_then ?_)
 refine aw_seq ?_
 refine aw_rs ?_
 refine .mv rfl (by rfl) ?_
 refine .v (f_not (by rfl)) rfl (.c rfl .nil) .nil ?_
 refine .nil (aq_then ?_)
 refine aw_cond rfl (fun hc3 => ?_) (fun hc3 => ?_)
 · replace h := ite_t hc3 h
   refine aw_rs ?_
   refine .v (f_load (n := 0) (o := 3) (off := 0) (p := []) (c := .d (eA22 a0)) (z := .d (eA22 a0)) (by rfl) rfl ty23 (by rfl)) rfl (.c rfl .nil) (.cons rfl .nil) ?_
   refine .v (f_build (xs := [(0, .d (eA22 a0))]) (z' := .st [.d (eA22 a0), .d (.val (.slice none 0 0))]) (by rfl) zrv26 ag26 rfl (by rfl) ⟨_, _, _, rfl, pl26_0, rfl, rfl, trivial⟩ (by rfl) (by rfl)) rfl (.c rfl .nil) .nil ?_
   refine .s (f_store (n := 0) (o := 4) (off := 0) (p := []) (c := .st [.d (eA22 (List.replicate 32 (0 : Int))), .d (.val (.slice none 0 0))]) (old := .st [.d (eA22 (List.replicate 32 (0 : Int))), .d (.val (.slice none 0 0))]) (z := .st [.d (eA22 a0), .d (.val (.slice none 0 0))]) (c' := .st [.d (eA22 a0), .d (.val (.slice none 0 0))]) rfl rfl (by rfl) ty26 (by rfl)) rfl (.c rfl (.c rfl .nil)) (.cons rfl .nil) ?_
   refine .nil (aq_then ?_)
   refine aw_ret ?_
   refine aq_then_ret ?_
   obtain rfl := Option.some.inj h
   refine aq_freezeH [] [(4, .ptr 4 0 [])] [(4, .av (.d (eGLine (⟨a0, []⟩ : GLine))))] .nil (.keep rfl .nil) (.cons rfl (by rfl) (.st (.cons (.same _) (.cons .nil .nil))) .nil) ?_
   refine aq_weak (s' := ⟨[(4, .ptr 4 0 [])], [(4, .av (.d (eGLine (⟨a0, []⟩ : GLine)))), (0, .av (.st [.st [.slc 1 0 ((a1).length) 33]])), (1, .av (.d (.arr 33 ((a1).length) ((a1).map eGLine))))], []⟩) id hb0 (.keep rfl .nil) (.keep rfl (.keep rfl (.keep rfl .nil))) rfl (by rfl) ?_
   exact aq_fin1 (.cell rfl rfl ty26 (by rfl) .nil) rfl ⟨rfl, rfl⟩
 replace h := ite_f hc3 h
 refine aw_skip ?_
 refine aq_then ?_
 refine aw_rs ?_
 refine .mv rfl (by rfl) ?_
 refine .v (f_nilCheck (by rfl)) rfl (.c rfl .nil) .nil ?_
 refine .v (f_fieldAddr (n := 0) (by rfl) fl132_0 (by decide)) rfl (.c rfl .nil) .nil ?_
 refine .v (f_fieldAddr (n := 0) (by rfl) fl74_0 (by decide)) rfl (.c rfl .nil) .nil ?_
 refine .v (f_load (n := 0) (o := 0) (off := ((0 + 0) + 0)) (p := [0, 0]) (c := .st [.st [.slc 1 0 ((a1).length) 33]]) (z := .slc 1 0 ((a1).length) 33) (by rfl) rfl ty72 (by rfl)) rfl (.c rfl .nil) (.cons rfl .nil) ?_
 refine .mv rfl (by rfl) ?_
 obtain ⟨x4, hx5, h⟩ := bind_some h
 obtain ⟨hx6, hx5⟩ := rd_some hx5
 refine .v (f_indexSW (by rfl) sl72 hx6 (rd_map _ hx5)) rfl (.c rfl (.c rfl .nil)) (.cons rfl .nil) ?_
 refine .v (f_load (n := 0) (o := 1) (off := ((0 + (y1.1).toNat) * 33)) (p := [0 + (y1.1).toNat]) (c := .d (.arr 33 ((a1).length) ((a1).map eGLine))) (z := .d (eGLine x4)) (by rfl) (at_map _ (by simpa using hx5) rfl) ty26 (by rfl)) rfl (.c rfl .nil) (.cons rfl .nil) ?_
 refine .s (f_store (n := 0) (o := 4) (off := 0) (p := []) (c := .st [.d (eA22 (List.replicate 32 (0 : Int))), .d (.val (.slice none 0 0))]) (old := .st [.d (eA22 (List.replicate 32 (0 : Int))), .d (.val (.slice none 0 0))]) (z := .d (eGLine x4)) (c' := .d (eGLine x4)) rfl rfl (by rfl) ty26 (by rfl)) rfl (.c rfl (.c rfl .nil)) (.cons rfl .nil) ?_
 refine .nil (aq_then ?_)
 refine aw_ret ?_
 obtain rfl := Option.some.inj h
 refine aq_weak (s' := ⟨[(4, .ptr 4 0 [])], [(4, .av (.d (eGLine x4))), (0, .av (.st [.st [.slc 1 0 ((a1).length) 33]])), (1, .av (.d (.arr 33 ((a1).length) ((a1).map eGLine))))], []⟩) id hb0 (.keep rfl .nil) (.keep rfl (.keep rfl (.keep rfl .nil))) rfl (by rfl) ?_
 exact aq_fin1 (.cell rfl rfl ty26 (by rfl) .nil) rfl ⟨rfl, rfl⟩

/- 34: beadroll/queue.Put -/
def F34_queue_Put (n : Nat) (a0 : GLine) (a1 : GTx) : Option (GLine × (List GTx) × Int) :=
  ((F18_queue_Check n a0).bind fun (y1 : Int) => (if (y1 != (0 : Int)) = true then some ((⟨(List.replicate 32 (0 : Int)), []⟩ : GLine), [], (8 : Int)) else ((F77_queue_own n a1 a0.From).bind fun (y4 : Bool) => (if (!y4) = true then some ((⟨(List.replicate 32 (0 : Int)), []⟩ : GLine), [], (2 : Int)) else ((F74_queue_nonces n a0).bind fun (y7 : (List GTx)) => ((F75_api_Tx_ahead_844 n y7 a1.Nonce).bind fun (y9 : Int) => ((F47_queue_Twin n a0).bind fun (y11 : (List Int) × List GTx) => (((if (decide (y9 < ((a0.Txs).length : Int))) = true then ((rd a0.Txs y9).bind fun (x14 : GTx) => some (x14.Nonce == a1.Nonce)) else some false)).bind fun (o17 : Bool) => (if o17 = true then ((rd a0.Txs y9).bind fun (x19 : GTx) => (if (decide (a1.Fee ≤ x19.Fee)) = true then some ((⟨(List.replicate 32 (0 : Int)), []⟩ : GLine), [], (190 : Int)) else ((rd y11.2 y9).bind fun (x23 : GTx) => ((rd a0.Txs y9).bind fun (x26 : GTx) => some ((⟨y11.1, (y11.2.set (0 + (y9).toNat) a1)⟩ : GLine), ([x26] : List GTx), (0 : Int)))))) else (if (((a0.Txs).length : Int) == (256 : Int)) = true then some ((⟨(List.replicate 32 (0 : Int)), []⟩ : GLine), [], (9 : Int)) else ((F83_Insert n y9 y11.2 ([a1] : List GTx)).bind fun (y30 : List GTx) => some ((⟨y11.1, y30⟩ : GLine), [], (0 : Int)))))))))))))
theorem F34_queue_Put_ok {n : Nat} {a0 : GLine} {a1 : GTx} {r : GLine × (List GTx) × Int} (h : F34_queue_Put n a0 a1 = some r) :
    ACall Tryd.prog GS 34 [.d (eGLine a0), .d (eGTx a1)] [] (fun r' hp' => r' = .res [.d (eGLine r.1), .d (eL24 r.2.1), .d (.val (.int .i64 r.2.2))] ∧ hp' = []) := by
 refine acall_of_body mixed Tryd.func34 rfl (by rfl) ?_
 intro C hro hgl hb0
 unfold F34_queue_Put at h
 refine aw_rs ?_
 refine .n (f_box 2 (by rfl) (by rfl)) rfl (.c rfl .nil) rfl ?_
 refine .n (f_box 3 (by rfl) (by rfl)) rfl (.c rfl .nil) rfl ?_
 refine .n (f_alloc 4 (by rfl) zrv26) rfl .nil rfl ?_
 refine .as rfl (by rfl) ?_
 refine .as rfl (by rfl) ?_
 refine .nil (aq_then ?_)
 refine aw_seq ?_
 refine aw_block ?_
 refine aw_rs ?_
 refine .v (f_load (n := 0) (o := 2) (off := 0) (p := []) (c := .d (eGLine a0)) (z := .d (eGLine a0)) (by rfl) rfl ty26 (by rfl)) rfl (.c rfl .nil) (.cons rfl .nil) ?_
 obtain ⟨y1, hy2, h⟩ := bind_some h
 refine .v (f_callP hgl (by rfl) en18 rfl (by rfl) (by rfl) (by rfl) (F18_queue_Check_ok hy2)) rfl (.c rfl .nil) .nil ?_
 refine .v (f_binI (by rfl) rfl (by rfl)) rfl (.c rfl (.c rfl .nil)) .nil ?_
 refine .as rfl (by rfl) ?_
 refine .nil (aq_then ?_)
 refine aw_cond rfl (fun hc3 => ?_) (fun hc3 => ?_)
 · replace h := ite_t hc3 h
   refine aw_rs ?_
   refine .v (f_load (n := 0) (o := 4) (off := 0) (p := []) (c := .st [.d (eA22 (List.replicate 32 (0 : Int))), .d (.val (.slice none 0 0))]) (z := .st [.d (eA22 (List.replicate 32 (0 : Int))), .d (.val (.slice none 0 0))]) (by rfl) rfl ty26 (by rfl)) rfl (.c rfl .nil) (.cons rfl .nil) ?_
   refine .s (f_store (n := 0) (o := 4) (off := 0) (p := []) (c := .st [.d (eA22 (List.replicate 32 (0 : Int))), .d (.val (.slice none 0 0))]) (old := .st [.d (eA22 (List.replicate 32 (0 : Int))), .d (.val (.slice none 0 0))]) (z := .st [.d (eA22 (List.replicate 32 (0 : Int))), .d (.val (.slice none 0 0))]) (c' := .st [.d (eA22 (List.replicate 32 (0 : Int))), .d (.val (.slice none 0 0))]) rfl rfl (by rfl) ty26 (by rfl)) rfl (.c rfl (.c rfl .nil)) (.cons rfl .nil) ?_
   refine .as rfl (by rfl) ?_
   refine .as rfl (by rfl) ?_
   refine .nil (aq_then ?_)
   refine aw_ret ?_
   refine aq_block_ret ?_
   refine aq_then_ret ?_
   obtain rfl := Option.some.inj h
   refine aq_freezeH [] [(4, .ptr 4 0 []), (5, .d (eL24 ([]))), (6, .d (.val (.int .i64 (8 : Int))))] [(4, .av (.d (eGLine (⟨(List.replicate 32 (0 : Int)), []⟩ : GLine))))] .nil (.keep rfl (.cons rfl .nil (.keep rfl .nil))) (.cons rfl (by rfl) (.st (.cons (.same _) (.cons .nil .nil))) .nil) ?_
   exact aq_finp hb0 rfl (.cell rfl rfl ty26 (by rfl) (.tmp rfl (by rfl) (.tmp rfl (by rfl) .nil))) (by rfl) rfl ⟨rfl, rfl⟩
 replace h := ite_f hc3 h
 refine aw_rs ?_
 refine .v (f_load (n := 0) (o := 3) (off := 0) (p := []) (c := .d (eGTx a1)) (z := .d (eGTx a1)) (by rfl) rfl ty36 (by rfl)) rfl (.c rfl .nil) (.cons rfl .nil) ?_
 refine .v (f_fieldAddr (n := 0) (by rfl) fl26_0 (by decide)) rfl (.c rfl .nil) .nil ?_
 refine .v (f_load (n := 0) (o := 2) (off := (0 + 0)) (p := [0]) (c := .d (eGLine a0)) (z := .d (eA22 a0.From)) (by rfl) rfl ty23 (by rfl)) rfl (.c rfl .nil) (.cons rfl .nil) ?_
 obtain ⟨y4, hy5, h⟩ := bind_some h
 refine .v (f_callP hgl (by rfl) en77 rfl (by rfl) (by rfl) (by rfl) (F77_queue_own_ok hy5)) rfl (.c rfl (.c rfl .nil)) .nil ?_
 refine .v (f_not (by rfl)) rfl (.c rfl .nil) .nil ?_
 refine .as rfl (by rfl) ?_
 refine .nil (aq_then ?_)
 refine aw_cond rfl (fun hc6 => ?_) (fun hc6 => ?_)
 · replace h := ite_t hc6 h
   refine aw_rs ?_
   refine .v (f_load (n := 0) (o := 4) (off := 0) (p := []) (c := .st [.d (eA22 (List.replicate 32 (0 : Int))), .d (.val (.slice none 0 0))]) (z := .st [.d (eA22 (List.replicate 32 (0 : Int))), .d (.val (.slice none 0 0))]) (by rfl) rfl ty26 (by rfl)) rfl (.c rfl .nil) (.cons rfl .nil) ?_
   refine .s (f_store (n := 0) (o := 4) (off := 0) (p := []) (c := .st [.d (eA22 (List.replicate 32 (0 : Int))), .d (.val (.slice none 0 0))]) (old := .st [.d (eA22 (List.replicate 32 (0 : Int))), .d (.val (.slice none 0 0))]) (z := .st [.d (eA22 (List.replicate 32 (0 : Int))), .d (.val (.slice none 0 0))]) (c' := .st [.d (eA22 (List.replicate 32 (0 : Int))), .d (.val (.slice none 0 0))]) rfl rfl (by rfl) ty26 (by rfl)) rfl (.c rfl (.c rfl .nil)) (.cons rfl .nil) ?_
   refine .as rfl (by rfl) ?_
   refine .as rfl (by rfl) ?_
   refine .nil (aq_then ?_)
   refine aw_ret ?_
   refine aq_block_ret ?_
   refine aq_then_ret ?_
   obtain rfl := Option.some.inj h
   refine aq_freezeH [] [(4, .ptr 4 0 []), (5, .d (eL24 ([]))), (6, .d (.val (.int .i64 (2 : Int))))] [(4, .av (.d (eGLine (⟨(List.replicate 32 (0 : Int)), []⟩ : GLine))))] .nil (.keep rfl (.cons rfl .nil (.keep rfl .nil))) (.cons rfl (by rfl) (.st (.cons (.same _) (.cons .nil .nil))) .nil) ?_
   exact aq_finp hb0 rfl (.cell rfl rfl ty26 (by rfl) (.tmp rfl (by rfl) (.tmp rfl (by rfl) .nil))) (by rfl) rfl ⟨rfl, rfl⟩
 replace h := ite_f hc6 h
 refine aw_skip ?_
 refine aq_block ?_
 refine aq_then ?_
 refine aw_rds ?_
 refine .v (f_load (n := 0) (o := 2) (off := 0) (p := []) (c := .d (eGLine a0)) (z := .d (eGLine a0)) (by rfl) rfl ty26 (by rfl)) rfl (.c rfl .nil) (.cons rfl .nil) ?_
 obtain ⟨y7, hy8, h⟩ := bind_some h
 refine .w (f_callG (xs := [.d (eGLine a0)]) (r := .st [.d (eL24 y7), .fn (.func 111) [] []]) (hw := [(1050, .av (.st [.d (eL24 y7), .fn (.func 111) [] []]))]) (fun i => bif Nat.beq i 2 then 1050 else i) [] hgl (by rfl) (cal_f en74) rfl (by rfl) (by rfl) (by rfl) (by rfl) (.cons (.same _) .nil) rfl rfl rfl rfl (F74_queue_nonces_ok hy8)) rfl (.c rfl .nil) .nil (.cons rfl .nil) ?_
 refine .v (f_fieldAddr (n := 64) (by rfl) fl36_2 (by decide)) rfl (.c rfl .nil) .nil ?_
 refine .v (f_load (n := 0) (o := 3) (off := (0 + 64)) (p := [2]) (c := .d (eGTx a1)) (z := .d (.val (.int .u64 a1.Nonce))) (by rfl) rfl ty27 (by rfl)) rfl (.c rfl .nil) (.cons rfl .nil) ?_
 obtain ⟨y9, hy10, h⟩ := bind_some h
 refine .w (f_callG0 (xs := [.st [.d (eL24 y7), .fn (.func 111) [] []], .d (.val (.int .u64 a1.Nonce))]) (r := .d (.val (.int .i64 y9))) (fun i => i) [] hgl (by rfl) (cal_f en75) rfl (by rfl) (by rfl) (by rfl) (by rfl) (.cons (.same _) (.cons (.same _) .nil)) rfl rfl (F75_api_Tx_ahead_844_ok hy10)) rfl (.c rfl (.c rfl .nil)) .nil .nil ?_
 refine .v (f_assign (by rfl)) rfl (.c rfl .nil) .nil ?_
 refine .nil (by kernel_rfl) ?_
 refine aw_rs ?_
 refine .v (f_load (n := 0) (o := 2) (off := 0) (p := []) (c := .d (eGLine a0)) (z := .d (eGLine a0)) (by rfl) rfl ty26 (by rfl)) rfl (.c rfl .nil) (.cons rfl .nil) ?_
 obtain ⟨y11, hy12, h⟩ := bind_some h
 refine .w (f_callG (xs := [.d (eGLine a0)]) (r := .st [.d (eA22 y11.1), .slc 1052 0 ((y11.2).length) 99]) (hw := [(1051, .av (.st [.d (eA22 y11.1), .slc 1052 0 ((y11.2).length) 99])), (1052, .av (.d (.arr 99 ((y11.2).length) ((y11.2).map eGTx))))]) (fun i => bif Nat.beq i 1046 then 1052 else (bif Nat.beq i 2 then 1051 else i)) [] hgl (by rfl) (cal_f en47) rfl (by rfl) (by rfl) (by rfl) (by rfl) (.cons (.same _) .nil) rfl rfl rfl rfl (F47_queue_Twin_ok hy12)) rfl (.c rfl .nil) .nil (.cons rfl (.cons rfl .nil)) ?_
 refine .s (f_store (n := 0) (o := 4) (off := 0) (p := []) (c := .st [.d (eA22 (List.replicate 32 (0 : Int))), .d (.val (.slice none 0 0))]) (old := .st [.d (eA22 (List.replicate 32 (0 : Int))), .d (.val (.slice none 0 0))]) (z := .st [.d (eA22 y11.1), .slc 1052 0 ((y11.2).length) 99]) (c' := .st [.d (eA22 y11.1), .slc 1052 0 ((y11.2).length) 99]) rfl rfl (by rfl) ty26 (by rfl)) rfl (.c rfl (.c rfl .nil)) (.cons rfl .nil) ?_
 refine .nil (aq_then ?_)
 refine aw_seq ?_
 refine aw_seq ?_
 obtain ⟨o17, ho32, h⟩ := bind_some h
 refine aw_join (.normal) ⟨[(2, .ptr 2 0 []), (3, .ptr 3 0 []), (4, .ptr 4 0 []), (7, .d (.val (.int .i64 y9))), (42, .d (.val (.bool o17)))], [(2, .av (.d (eGLine a0))), (3, .av (.d (eGTx a1))), (4, .av (.st [.d (eA22 y11.1), .slc 1052 0 ((y11.2).length) 99])), (1052, .av (.d (.arr 99 ((y11.2).length) ((y11.2).map eGTx))))], []⟩ ?_ ?_
 · replace h := ho32
   refine aw_rd ?_
   refine .v (f_move (by rfl)) rfl (.c rfl .nil) .nil ?_
   refine .v (f_fieldAddr (n := 32) (by rfl) fl26_1 (by decide)) rfl (.c rfl .nil) .nil ?_
   refine .v (f_load (n := 0) (o := 2) (off := (0 + 32)) (p := [1]) (c := .d (eGLine a0)) (z := .d (eL24 a0.Txs)) (by rfl) rfl ty24 (by rfl)) rfl (.c rfl .nil) (.cons rfl .nil) ?_
   refine .v (f_lenD (n := (a0.Txs).length) (by rfl) sl24 rfl (by simp)) rfl (.c rfl .nil) .nil ?_
   refine .v (f_binI (by rfl) rfl (by rfl)) rfl (.c rfl (.c rfl .nil)) .nil ?_
   refine .v (f_move (by rfl)) rfl (.c rfl .nil) .nil ?_
   rcases Bool.eq_false_or_eq_true (decide (y9 < ((a0.Txs).length : Int))) with hc13 | hc13
   · replace h := ite_t hc13 h
     refine .gv (f_fieldAddr (n := 32) (by rfl) fl26_1 (by decide)) rfl rfl rfl hc13 (.c rfl .nil) .nil ?_
     refine .gv (f_load (n := 0) (o := 2) (off := (0 + 32)) (p := [1]) (c := .d (eGLine a0)) (z := .d (eL24 a0.Txs)) (by rfl) rfl ty24 (by rfl)) rfl rfl rfl hc13 (.c rfl .nil) (.cons rfl .nil) ?_
     refine .gv (f_move (by rfl)) rfl rfl rfl hc13 (.c rfl .nil) .nil ?_
     obtain ⟨x14, hx15, h⟩ := bind_some h
     obtain ⟨hx16, hx15⟩ := rd_some hx15
     refine .gv (f_indexS (by rfl) sl24 hx16 (rd_map _ hx15)) rfl rfl rfl hc13 (.c rfl (.c rfl .nil)) .nil ?_
     refine .gv (f_fieldAddrR (by rfl) fl36_2 (by decide) rfl) rfl rfl rfl hc13 (.c rfl .nil) .nil ?_
     refine .gv (f_loadR (z := (.val (.int .u64 x14.Nonce))) (by rfl) ty27) rfl rfl rfl hc13 (.c rfl .nil) .nil ?_
     refine .gv (f_fieldAddr (n := 64) (by rfl) fl36_2 (by decide)) rfl rfl rfl hc13 (.c rfl .nil) .nil ?_
     refine .gv (f_load (n := 0) (o := 3) (off := (0 + 64)) (p := [2]) (c := .d (eGTx a1)) (z := .d (.val (.int .u64 a1.Nonce))) (by rfl) rfl ty27 (by rfl)) rfl rfl rfl hc13 (.c rfl .nil) (.cons rfl .nil) ?_
     refine .gv (f_binI (by rfl) rfl (by rfl)) rfl rfl rfl hc13 (.c rfl (.c rfl .nil)) .nil ?_
     refine .v (f_pick_true (by rfl) hc13) rfl (.c rfl (.c rfl .nil)) .nil ?_
     refine .nil (by kernel_rfl) ?_
     obtain rfl := Option.some.inj h
     refine aq_weak (s' := ⟨[(2, .ptr 2 0 []), (3, .ptr 3 0 []), (4, .ptr 4 0 []), (7, .d (.val (.int .i64 y9))), (42, .d (.val (.bool (x14.Nonce == a1.Nonce))))], [(2, .av (.d (eGLine a0))), (3, .av (.d (eGTx a1))), (4, .av (.st [.d (eA22 y11.1), .slc 1052 0 ((y11.2).length) 99])), (1052, .av (.d (.arr 99 ((y11.2).length) ((y11.2).map eGTx))))], []⟩) id hb0 (.keep rfl (.keep rfl (.keep rfl (.keep rfl (.keep rfl .nil))))) (.keep rfl (.keep rfl (.keep rfl (.keep rfl .nil)))) rfl (by rfl) ?_
     exact jq
   replace h := ite_f hc13 h
   refine .off rfl rfl rfl hc13 rfl (by rfl) ?_
   refine .off rfl rfl rfl hc13 rfl (by rfl) ?_
   refine .off rfl rfl rfl hc13 rfl (by rfl) ?_
   refine .off rfl rfl rfl hc13 rfl (by rfl) ?_
   refine .off rfl rfl rfl hc13 rfl (by rfl) ?_
   refine .off rfl rfl rfl hc13 rfl (by rfl) ?_
   refine .off rfl rfl rfl hc13 rfl (by rfl) ?_
   refine .off rfl rfl rfl hc13 rfl (by rfl) ?_
   refine .off rfl rfl rfl hc13 rfl (by rfl) ?_
   refine .v (f_pick_false (by rfl) hc13) rfl (.c rfl (.c rfl .nil)) .nil ?_
   refine .nil (by kernel_rfl) ?_
   obtain rfl := Option.some.inj h
   refine aq_weak (s' := ⟨[(2, .ptr 2 0 []), (3, .ptr 3 0 []), (4, .ptr 4 0 []), (7, .d (.val (.int .i64 y9))), (42, .d (.val (.bool false)))], [(2, .av (.d (eGLine a0))), (3, .av (.d (eGTx a1))), (4, .av (.st [.d (eA22 y11.1), .slc 1052 0 ((y11.2).length) 99])), (1052, .av (.d (.arr 99 ((y11.2).length) ((y11.2).map eGTx))))], []⟩) id hb0 (.keep rfl (.keep rfl (.keep rfl (.keep rfl (.keep rfl .nil))))) (.keep rfl (.keep rfl (.keep rfl (.keep rfl .nil)))) rfl (by rfl) ?_
   exact jq
 refine aq_then ?_
 refine aw_cond rfl (fun hc18 => ?_) (fun hc18 => ?_)
 · replace h := ite_t hc18 h
   refine aw_seq ?_
   refine aw_rds ?_
   refine .v (f_fieldAddr (n := 66) (by rfl) fl36_4 (by decide)) rfl (.c rfl .nil) .nil ?_
   refine .v (f_load (n := 0) (o := 3) (off := (0 + 66)) (p := [4]) (c := .d (eGTx a1)) (z := .d (.val (.int .u64 a1.Fee))) (by rfl) rfl ty27 (by rfl)) rfl (.c rfl .nil) (.cons rfl .nil) ?_
   refine .v (f_fieldAddr (n := 32) (by rfl) fl26_1 (by decide)) rfl (.c rfl .nil) .nil ?_
   refine .v (f_load (n := 0) (o := 2) (off := (0 + 32)) (p := [1]) (c := .d (eGLine a0)) (z := .d (eL24 a0.Txs)) (by rfl) rfl ty24 (by rfl)) rfl (.c rfl .nil) (.cons rfl .nil) ?_
   refine .v (f_move (by rfl)) rfl (.c rfl .nil) .nil ?_
   obtain ⟨x19, hx20, h⟩ := bind_some h
   obtain ⟨hx21, hx20⟩ := rd_some hx20
   refine .v (f_indexS (by rfl) sl24 hx21 (rd_map _ hx20)) rfl (.c rfl (.c rfl .nil)) .nil ?_
   refine .v (f_fieldAddrR (by rfl) fl36_4 (by decide) rfl) rfl (.c rfl .nil) .nil ?_
   refine .v (f_loadR (z := (.val (.int .u64 x19.Fee))) (by rfl) ty27) rfl (.c rfl .nil) .nil ?_
   refine .v (f_binI (by rfl) rfl (by rfl)) rfl (.c rfl (.c rfl .nil)) .nil ?_
   refine .nil (by kernel_rfl) ?_
   refine aw_cond rfl (fun hc22 => ?_) (fun hc22 => ?_)
   · replace h := ite_t hc22 h
     refine aw_rs ?_
     refine .v (f_build (xs := []) (z' := .st [.d (eA22 (List.replicate 32 (0 : Int))), .d (.val (.slice none 0 0))]) (by rfl) zrv26 ag26 rfl (by rfl) trivial (by rfl) (by rfl)) rfl .nil .nil ?_
     refine .s (f_store (n := 0) (o := 4) (off := 0) (p := []) (c := .st [.d (eA22 y11.1), .slc 1052 0 ((y11.2).length) 99]) (old := .st [.d (eA22 y11.1), .slc 1052 0 ((y11.2).length) 99]) (z := .st [.d (eA22 (List.replicate 32 (0 : Int))), .d (.val (.slice none 0 0))]) (c' := .st [.d (eA22 (List.replicate 32 (0 : Int))), .d (.val (.slice none 0 0))]) rfl rfl (by rfl) ty26 (by rfl)) rfl (.c rfl (.c rfl .nil)) (.cons rfl .nil) ?_
     refine .as rfl (by rfl) ?_
     refine .as rfl (by rfl) ?_
     refine .nil (aq_then ?_)
     refine aw_ret ?_
     refine aq_then_ret ?_
     refine aq_then_ret ?_
     obtain rfl := Option.some.inj h
     refine aq_freezeH [] [(4, .ptr 4 0 []), (5, .d (eL24 ([]))), (6, .d (.val (.int .i64 (190 : Int))))] [(4, .av (.d (eGLine (⟨(List.replicate 32 (0 : Int)), []⟩ : GLine))))] .nil (.keep rfl (.cons rfl .nil (.keep rfl .nil))) (.cons rfl (by rfl) (.st (.cons (.same _) (.cons .nil .nil))) .nil) ?_
     exact aq_finp hb0 rfl (.cell rfl rfl ty26 (by rfl) (.tmp rfl (by rfl) (.tmp rfl (by rfl) .nil))) (by rfl) rfl ⟨rfl, rfl⟩
   replace h := ite_f hc22 h
   refine aw_skip ?_
   refine aq_then ?_
   refine aw_rs ?_
   refine .v (f_fieldAddr (n := 32) (by rfl) fl26_1 (by decide)) rfl (.c rfl .nil) .nil ?_
   refine .v (f_load (n := 0) (o := 4) (off := (0 + 32)) (p := [1]) (c := .st [.d (eA22 y11.1), .slc 1052 0 ((y11.2).length) 99]) (z := .slc 1052 0 ((y11.2).length) 99) (by rfl) rfl ty24 (by rfl)) rfl (.c rfl .nil) (.cons rfl .nil) ?_
   refine .mv rfl (by rfl) ?_
   refine .v (f_load (n := 0) (o := 3) (off := 0) (p := []) (c := .d (eGTx a1)) (z := .d (eGTx a1)) (by rfl) rfl ty36 (by rfl)) rfl (.c rfl .nil) (.cons rfl .nil) ?_
   obtain ⟨x23, hx24, h⟩ := bind_some h
   obtain ⟨hx25, hx24⟩ := rd_some hx24
   refine .v (f_indexSW (by rfl) sl24 hx25 (rd_map _ hx24)) rfl (.c rfl (.c rfl .nil)) (.cons rfl .nil) ?_
   refine .s (f_store (n := 0) (o := 1052) (off := ((0 + (y9).toNat) * 99)) (p := [0 + (y9).toNat]) (c := .d (.arr 99 ((y11.2).length) ((y11.2).map eGTx))) (old := .d (eGTx x23)) (z := .d (eGTx a1)) (c' := .d (.arr 99 ((y11.2).length) (((y11.2.set (0 + (y9).toNat) a1)).map eGTx))) (at_map _ (by simpa using hx24) rfl) (put_map _ (by simpa using hx24)) (by rfl) ty36 (by rfl)) rfl (.c rfl (.c rfl .nil)) (.cons rfl .nil) ?_
   refine .nil (aq_then ?_)
   refine aw_rds ?_
   refine .v (f_load (n := 0) (o := 4) (off := 0) (p := []) (c := .st [.d (eA22 y11.1), .slc 1052 0 ((y11.2).length) 99]) (z := .st [.d (eA22 y11.1), .slc 1052 0 ((y11.2).length) 99]) (by rfl) rfl ty26 (by rfl)) rfl (.c rfl .nil) (.cons rfl .nil) ?_
   refine .v (f_fieldAddr (n := 32) (by rfl) fl26_1 (by decide)) rfl (.c rfl .nil) .nil ?_
   refine .v (f_load (n := 0) (o := 2) (off := (0 + 32)) (p := [1]) (c := .d (eGLine a0)) (z := .d (eL24 a0.Txs)) (by rfl) rfl ty24 (by rfl)) rfl (.c rfl .nil) (.cons rfl .nil) ?_
   refine .v (f_move (by rfl)) rfl (.c rfl .nil) .nil ?_
   obtain ⟨x26, hx27, h⟩ := bind_some h
   obtain ⟨hx28, hx27⟩ := rd_some hx27
   refine .v (f_indexS (by rfl) sl24 hx28 (rd_map _ hx27)) rfl (.c rfl (.c rfl .nil)) .nil ?_
   refine .v (f_loadR (z := (eGTx x26)) (by rfl) ty36) rfl (.c rfl .nil) .nil ?_
   refine .n (f_buildS (xs := [(0, .d (eGTx x26))]) (z := (.st [(eA22 (List.replicate 32 (0 : Int))), (eA22 (List.replicate 32 (0 : Int))), (.val (.int .u64 (0 : Int))), (.val (.int .u64 (0 : Int))), (.val (.int .u64 (0 : Int))), (eA22 (List.replicate 32 (0 : Int)))])) (zs := (([x26] : List GTx)).map eGTx) 1053 (by rfl) el24 zel24 (by rfl) (by decide) (by decide) rfl (by rfl) ⟨_, _, _, rfl, pl24_0, rfl, rfl, trivial⟩ (by rfl)) rfl (.c rfl .nil) rfl ?_
   refine .s (f_store (n := 0) (o := 4) (off := 0) (p := []) (c := .st [.d (eA22 y11.1), .slc 1052 0 ((y11.2).length) 99]) (old := .st [.d (eA22 y11.1), .slc 1052 0 ((y11.2).length) 99]) (z := .st [.d (eA22 y11.1), .slc 1052 0 ((y11.2).length) 99]) (c' := .st [.d (eA22 y11.1), .slc 1052 0 ((y11.2).length) 99]) rfl rfl (by rfl) ty26 (by rfl)) rfl (.c rfl (.c rfl .nil)) (.cons rfl .nil) ?_
   refine .v (f_assign (by rfl)) rfl (.c rfl .nil) .nil ?_
   refine .v (f_assign (by rfl)) rfl (.c rfl .nil) .nil ?_
   refine .nil (by kernel_rfl) ?_
   refine aw_ret ?_
   refine aq_then_ret ?_
   obtain rfl := Option.some.inj h
   refine aq_freezeH [(1053, (.arr 99 ((([x26] : List GTx)).length) ((([x26] : List GTx)).map eGTx))), (1052, (.arr 99 ((y11.2).length) (((y11.2.set (0 + (y9).toNat) a1)).map eGTx)))] [(4, .ptr 4 0 []), (5, .d (eL24 ([x26] : List GTx))), (6, .d (.val (.int .i64 (0 : Int))))] [(4, .av (.d (eGLine (⟨y11.1, (y11.2.set (0 + (y9).toNat) a1)⟩ : GLine))))] (.cons rfl (.cons rfl .nil)) (.keep rfl (.cons rfl (.whole (.head _)) (.keep rfl .nil))) (.cons rfl (by rfl) (.st (.cons (.same _) (.cons (.whole (.tail _ (.head _))) .nil))) .nil) ?_
   exact aq_finp hb0 rfl (.cell rfl rfl ty26 (by rfl) (.tmp rfl (by rfl) (.tmp rfl (by rfl) .nil))) (by rfl) rfl ⟨rfl, rfl⟩
 replace h := ite_f hc18 h
 refine aw_skip ?_
 refine aq_then ?_
 refine aw_seq ?_
 refine aw_rs ?_
 refine .v (f_fieldAddr (n := 32) (by rfl) fl26_1 (by decide)) rfl (.c rfl .nil) .nil ?_
 refine .v (f_load (n := 0) (o := 2) (off := (0 + 32)) (p := [1]) (c := .d (eGLine a0)) (z := .d (eL24 a0.Txs)) (by rfl) rfl ty24 (by rfl)) rfl (.c rfl .nil) (.cons rfl .nil) ?_
 refine .v (f_lenD (n := (a0.Txs).length) (by rfl) sl24 rfl (by simp)) rfl (.c rfl .nil) .nil ?_
 refine .v (f_binI (by rfl) rfl (by rfl)) rfl (.c rfl (.c rfl .nil)) .nil ?_
 refine .nil (aq_then ?_)
 refine aw_cond rfl (fun hc29 => ?_) (fun hc29 => ?_)
 · replace h := ite_t hc29 h
   refine aw_rs ?_
   refine .v (f_build (xs := []) (z' := .st [.d (eA22 (List.replicate 32 (0 : Int))), .d (.val (.slice none 0 0))]) (by rfl) zrv26 ag26 rfl (by rfl) trivial (by rfl) (by rfl)) rfl .nil .nil ?_
   refine .s (f_store (n := 0) (o := 4) (off := 0) (p := []) (c := .st [.d (eA22 y11.1), .slc 1052 0 ((y11.2).length) 99]) (old := .st [.d (eA22 y11.1), .slc 1052 0 ((y11.2).length) 99]) (z := .st [.d (eA22 (List.replicate 32 (0 : Int))), .d (.val (.slice none 0 0))]) (c' := .st [.d (eA22 (List.replicate 32 (0 : Int))), .d (.val (.slice none 0 0))]) rfl rfl (by rfl) ty26 (by rfl)) rfl (.c rfl (.c rfl .nil)) (.cons rfl .nil) ?_
   refine .as rfl (by rfl) ?_
   refine .as rfl (by rfl) ?_
   refine .nil (aq_then ?_)
   refine aw_ret ?_
   refine aq_then_ret ?_
   obtain rfl := Option.some.inj h
   refine aq_freezeH [] [(4, .ptr 4 0 []), (5, .d (eL24 ([]))), (6, .d (.val (.int .i64 (9 : Int))))] [(4, .av (.d (eGLine (⟨(List.replicate 32 (0 : Int)), []⟩ : GLine))))] .nil (.keep rfl (.cons rfl .nil (.keep rfl .nil))) (.cons rfl (by rfl) (.st (.cons (.same _) (.cons .nil .nil))) .nil) ?_
   exact aq_finp hb0 rfl (.cell rfl rfl ty26 (by rfl) (.tmp rfl (by rfl) (.tmp rfl (by rfl) .nil))) (by rfl) rfl ⟨rfl, rfl⟩
 replace h := ite_f hc29 h
 refine aw_skip ?_
 refine aq_then ?_
 refine aw_rs ?_
 refine .v (f_fieldAddr (n := 32) (by rfl) fl26_1 (by decide)) rfl (.c rfl .nil) .nil ?_
 refine .v (f_load (n := 0) (o := 4) (off := (0 + 32)) (p := [1]) (c := .st [.d (eA22 y11.1), .slc 1052 0 ((y11.2).length) 99]) (z := .slc 1052 0 ((y11.2).length) 99) (by rfl) rfl ty24 (by rfl)) rfl (.c rfl .nil) (.cons rfl .nil) ?_
 refine .mv rfl (by rfl) ?_
 refine .v (f_load (n := 0) (o := 3) (off := 0) (p := []) (c := .d (eGTx a1)) (z := .d (eGTx a1)) (by rfl) rfl ty36 (by rfl)) rfl (.c rfl .nil) (.cons rfl .nil) ?_
 refine .n (f_buildS (xs := [(0, .d (eGTx a1))]) (z := (.st [(eA22 (List.replicate 32 (0 : Int))), (eA22 (List.replicate 32 (0 : Int))), (.val (.int .u64 (0 : Int))), (.val (.int .u64 (0 : Int))), (.val (.int .u64 (0 : Int))), (eA22 (List.replicate 32 (0 : Int)))])) (zs := (([a1] : List GTx)).map eGTx) 1054 (by rfl) el24 zel24 (by rfl) (by decide) (by decide) rfl (by rfl) ⟨_, _, _, rfl, pl24_0, rfl, rfl, trivial⟩ (by rfl)) rfl (.c rfl .nil) rfl ?_
 obtain ⟨y30, hy31, h⟩ := bind_some h
 refine .w (f_callG (xs := [.slc 1052 0 ((y11.2).length) 99, .d (.val (.int .i64 y9)), .slc 1054 0 ((([a1] : List GTx)).length) 99]) (r := .slc 1055 0 ((y30).length) 99) (hw := [(1055, .av (.d (.arr 99 ((y30).length) ((y30).map eGTx)))), (1052, .dead), (1054, .av (.d (.arr 99 ((([a1] : List GTx)).length) ((([a1] : List GTx)).map eGTx))))]) (fun i => bif Nat.beq i 2 then 1055 else (bif Nat.beq i 1 then 1054 else (bif Nat.beq i 0 then 1052 else i))) [] hgl (by rfl) (cal_f en83) rfl (by rfl) (by rfl) (by rfl) (by rfl) (.cons (.same _) (.cons (.same _) (.cons (.same _) .nil))) rfl rfl rfl rfl (F83_Insert_ok hy31)) rfl (.c rfl (.c rfl (.c rfl .nil))) (.cons rfl (.cons rfl .nil)) (.cons rfl .nil) ?_
 refine .v (f_fieldAddr (n := 32) (by rfl) fl26_1 (by decide)) rfl (.c rfl .nil) .nil ?_
 refine .s (f_store (n := 0) (o := 4) (off := (0 + 32)) (p := [1]) (c := .st [.d (eA22 y11.1), .slc 1052 0 ((y11.2).length) 99]) (old := .slc 1052 0 ((y11.2).length) 99) (z := .slc 1055 0 ((y30).length) 99) (c' := .st [.d (eA22 y11.1), .slc 1055 0 ((y30).length) 99]) rfl rfl (by rfl) ty24 (by rfl)) rfl (.c rfl (.c rfl .nil)) (.cons rfl .nil) ?_
 refine .nil (aq_then ?_)
 refine aw_rs ?_
 refine .v (f_load (n := 0) (o := 4) (off := 0) (p := []) (c := .st [.d (eA22 y11.1), .slc 1055 0 ((y30).length) 99]) (z := .st [.d (eA22 y11.1), .slc 1055 0 ((y30).length) 99]) (by rfl) rfl ty26 (by rfl)) rfl (.c rfl .nil) (.cons rfl .nil) ?_
 refine .s (f_store (n := 0) (o := 4) (off := 0) (p := []) (c := .st [.d (eA22 y11.1), .slc 1055 0 ((y30).length) 99]) (old := .st [.d (eA22 y11.1), .slc 1055 0 ((y30).length) 99]) (z := .st [.d (eA22 y11.1), .slc 1055 0 ((y30).length) 99]) (c' := .st [.d (eA22 y11.1), .slc 1055 0 ((y30).length) 99]) rfl rfl (by rfl) ty26 (by rfl)) rfl (.c rfl (.c rfl .nil)) (.cons rfl .nil) ?_
 refine .as rfl (by rfl) ?_
 refine .as rfl (by rfl) ?_
 refine .nil (aq_then ?_)
 refine aw_ret ?_
 obtain rfl := Option.some.inj h
 refine aq_freezeH [(1055, (.arr 99 ((y30).length) ((y30).map eGTx)))] [(4, .ptr 4 0 []), (5, .d (eL24 ([]))), (6, .d (.val (.int .i64 (0 : Int))))] [(4, .av (.d (eGLine (⟨y11.1, y30⟩ : GLine))))] (.cons rfl .nil) (.keep rfl (.cons rfl .nil (.keep rfl .nil))) (.cons rfl (by rfl) (.st (.cons (.same _) (.cons (.whole (.head _)) .nil))) .nil) ?_
 exact aq_finp hb0 rfl (.cell rfl rfl ty26 (by rfl) (.tmp rfl (by rfl) (.tmp rfl (by rfl) .nil))) (by rfl) rfl ⟨rfl, rfl⟩

/- 120: (*beadroll/shard.part).worst$1 -/
def F120_shard_part_worst_1_e00 (n : Nat) (a0 : Int) (a1 : (List GLine)) : Option (Int) :=
  ((rd a1 a0).bind fun (x1 : GLine) => ((rd a1 a0).bind fun (x4 : GLine) => ((rd x1.Txs (IntKind.i64.wrap (((x4.Txs).length : Int) - (1 : Int)))).bind fun (x7 : GTx) => some x7.Fee)))
theorem F120_shard_part_worst_1_e00_ok {n : Nat} {a0 : Int} {a1 : (List GLine)} {r : Int} (h : F120_shard_part_worst_1_e00 n a0 a1 = some r) :
    ACall Tryd.prog GS 120 [.d (.val (.int .i64 a0)), .ptr 0 0 []] [(0, .av (.ptr 1 0 [])), (1, .av (.st [.st [.slc 2 0 ((a1).length) 33]])), (2, .av (.d (.arr 33 ((a1).length) ((a1).map eGLine))))] (fun r' hp' => r' = .d (.val (.int .u64 r)) ∧ hp' = [(0, .av (.ptr 1 0 [])), (1, .av (.st [.st [.slc 2 0 ((a1).length) 33]])), (2, .av (.d (.arr 33 ((a1).length) ((a1).map eGLine))))]) := by
 refine acall_of_body mixed Tryd.func120 rfl (by rfl) ?_
 intro C hro hgl hb0
 unfold F120_shard_part_worst_1_e00 at h
 refine aw_rs ?_
 refine .as rfl (by rfl) ?_
 refine .nil (aq_then ?_)
 refine aw_rds ?_
 refine .v (f_load (n := 0) (o := 0) (off := 0) (p := []) (c := .ptr 1 0 []) (z := .ptr 1 0 []) (by rfl) rfl ty130 (by rfl)) rfl (.c rfl .nil) (.cons rfl .nil) ?_
 refine .v (f_nilCheck (by rfl)) rfl (.c rfl .nil) .nil ?_
 refine .v (f_fieldAddr (n := 0) (by rfl) fl132_0 (by decide)) rfl (.c rfl .nil) .nil ?_
 refine .v (f_fieldAddr (n := 0) (by rfl) fl74_0 (by decide)) rfl (.c rfl .nil) .nil ?_
 refine .v (f_load (n := 0) (o := 1) (off := ((0 + 0) + 0)) (p := [0, 0]) (c := .st [.st [.slc 2 0 ((a1).length) 33]]) (z := .slc 2 0 ((a1).length) 33) (by rfl) rfl ty72 (by rfl)) rfl (.c rfl .nil) (.cons rfl .nil) ?_
 refine .v (f_move (by rfl)) rfl (.c rfl .nil) .nil ?_
 obtain ⟨x1, hx2, h⟩ := bind_some h
 obtain ⟨hx3, hx2⟩ := rd_some hx2
 refine .v (f_indexSW (by rfl) sl72 hx3 (rd_map _ hx2)) rfl (.c rfl (.c rfl .nil)) (.cons rfl .nil) ?_
 refine .v (f_fieldAddr (n := 32) (by rfl) fl26_1 (by decide)) rfl (.c rfl .nil) .nil ?_
 refine .v (f_load (n := 0) (o := 2) (off := (((0 + (a0).toNat) * 33) + 32)) (p := [0 + (a0).toNat, 1]) (c := .d (.arr 33 ((a1).length) ((a1).map eGLine))) (z := .d (eL24 x1.Txs)) (by rfl) (at_map2 eGLine (by simpa using hx2) rfl rfl) ty24 (by rfl)) rfl (.c rfl .nil) (.cons rfl .nil) ?_
 refine .v (f_load (n := 0) (o := 0) (off := 0) (p := []) (c := .ptr 1 0 []) (z := .ptr 1 0 []) (by rfl) rfl ty130 (by rfl)) rfl (.c rfl .nil) (.cons rfl .nil) ?_
 refine .v (f_nilCheck (by rfl)) rfl (.c rfl .nil) .nil ?_
 refine .v (f_fieldAddr (n := 0) (by rfl) fl132_0 (by decide)) rfl (.c rfl .nil) .nil ?_
 refine .v (f_fieldAddr (n := 0) (by rfl) fl74_0 (by decide)) rfl (.c rfl .nil) .nil ?_
 refine .v (f_load (n := 0) (o := 1) (off := ((0 + 0) + 0)) (p := [0, 0]) (c := .st [.st [.slc 2 0 ((a1).length) 33]]) (z := .slc 2 0 ((a1).length) 33) (by rfl) rfl ty72 (by rfl)) rfl (.c rfl .nil) (.cons rfl .nil) ?_
 refine .v (f_move (by rfl)) rfl (.c rfl .nil) .nil ?_
 obtain ⟨x4, hx5, h⟩ := bind_some h
 obtain ⟨hx6, hx5⟩ := rd_some hx5
 refine .v (f_indexSW (by rfl) sl72 hx6 (rd_map _ hx5)) rfl (.c rfl (.c rfl .nil)) (.cons rfl .nil) ?_
 refine .v (f_fieldAddr (n := 32) (by rfl) fl26_1 (by decide)) rfl (.c rfl .nil) .nil ?_
 refine .v (f_load (n := 0) (o := 2) (off := (((0 + (a0).toNat) * 33) + 32)) (p := [0 + (a0).toNat, 1]) (c := .d (.arr 33 ((a1).length) ((a1).map eGLine))) (z := .d (eL24 x4.Txs)) (by rfl) (at_map2 eGLine (by simpa using hx5) rfl rfl) ty24 (by rfl)) rfl (.c rfl .nil) (.cons rfl .nil) ?_
 refine .v (f_lenD (n := (x4.Txs).length) (by rfl) sl24 rfl (by simp)) rfl (.c rfl .nil) .nil ?_
 refine .v (f_binI (by rfl) rfl (by rfl)) rfl (.c rfl (.c rfl .nil)) .nil ?_
 obtain ⟨x7, hx8, h⟩ := bind_some h
 obtain ⟨hx9, hx8⟩ := rd_some hx8
 refine .v (f_indexS (by rfl) sl24 hx9 (rd_map _ hx8)) rfl (.c rfl (.c rfl .nil)) .nil ?_
 refine .v (f_fieldAddrR (by rfl) fl36_4 (by decide) rfl) rfl (.c rfl .nil) .nil ?_
 refine .v (f_loadR (z := (.val (.int .u64 x7.Fee))) (by rfl) ty27) rfl (.c rfl .nil) .nil ?_
 refine .v (f_assign (by rfl)) rfl (.c rfl .nil) .nil ?_
 refine .nil (by kernel_rfl) ?_
 refine aw_ret ?_
 obtain rfl := Option.some.inj h
 refine aq_weak (s' := ⟨[(3, .d (.val (.int .u64 x7.Fee)))], [(0, .av (.ptr 1 0 [])), (1, .av (.st [.st [.slc 2 0 ((a1).length) 33]])), (2, .av (.d (.arr 33 ((a1).length) ((a1).map eGLine))))], []⟩) id hb0 (.keep rfl .nil) (.keep rfl (.keep rfl (.keep rfl .nil))) rfl (by rfl) ?_
 exact aq_fin1 (.tmp rfl (by rfl) .nil) rfl ⟨rfl, rfl⟩

/- 94: (*beadroll/shard.part).worst -/
def F94_shard_part_worst_647_s0 (n : Nat) (a0 : GTx) (a1 : (List GLine)) (y1 : (List Int)) (z0_0 : Int) (z0_1 : Int) : Option ((Int × Int) ⊕ (Int)) :=
  (if (decide (z0_1 < ((a1).length : Int))) = true then ((((((rd a1 z0_1).bind fun (x4 : GLine) => (if (!(decide (x4.From = y1))) = true then ((F120_shard_part_worst_1_e00 n z0_1 a1).bind fun (y8 : Int) => (if (decide (y8 < a0.Fee)) = true then (if (decide (z0_0 < (0 : Int))) = true then some true else ((F120_shard_part_worst_1_e00 n z0_1 a1).bind fun (y12 : Int) => ((F120_shard_part_worst_1_e00 n z0_0 a1).bind fun (y14 : Int) => some (decide (y12 < y14))))) else some false)) else some false))).bind fun (o16 : Bool) => (if o16 = true then some z0_1 else some z0_0))).bind fun (o19 : Int) => some (.inl (o19, (IntKind.i64.wrap (z0_1 + (1 : Int)))))) else some (.inr z0_0))
def F94_shard_part_worst_647 (n : Nat) (a0 : GTx) (a1 : (List GLine)) : Option (Int) :=
  ((F39_tx_From n a0).bind fun (y1 : (List Int)) => ((loopF (fun (z : Int × Int) => F94_shard_part_worst_647_s0 n a0 a1 y1 z.1 z.2) n ((-1 : Int), (0 : Int))).bind fun (o21 : Int) => some o21))
theorem F94_shard_part_worst_647_ok {n : Nat} {a0 : GTx} {a1 : (List GLine)} {r : Int} (h : F94_shard_part_worst_647 n a0 a1 = some r) :
    ACall Tryd.prog GS 94 [.ptr 0 0 [], .d (eGTx a0)] [(0, .av (.st [.st [.slc 1 0 ((a1).length) 33]])), (1, .av (.d (.arr 33 ((a1).length) ((a1).map eGLine))))] (fun r' hp' => r' = .d (.val (.int .i64 r)) ∧ hp' = [(0, .av (.st [.st [.slc 1 0 ((a1).length) 33]])), (1, .av (.d (.arr 33 ((a1).length) ((a1).map eGLine))))]) := by
 refine acall_of_body mixed Tryd.func94 rfl (by rfl) ?_
 intro C hro hgl hb0
 unfold F94_shard_part_worst_647 at h
 refine aw_rs ?_
 refine .n (f_box 2 (by rfl) (by rfl)) rfl (.c rfl .nil) rfl ?_
 refine .n (f_box 3 (by rfl) (by rfl)) rfl (.c rfl .nil) rfl ?_
 refine .as rfl (by rfl) ?_
 refine .nil (aq_then ?_)
 refine aw_rs ?_
 refine .v (f_load (n := 0) (o := 3) (off := 0) (p := []) (c := .d (eGTx a0)) (z := .d (eGTx a0)) (by rfl) rfl ty36 (by rfl)) rfl (.c rfl .nil) (.cons rfl .nil) ?_
 obtain ⟨y1, hy2, h⟩ := bind_some h
 refine .v (f_callP hgl (by rfl) en39 rfl (by rfl) (by rfl) (by rfl) (F39_tx_From_ok hy2)) rfl (.c rfl .nil) .nil ?_
 refine .n (f_alloc 6 (by rfl) zr23) rfl .nil rfl ?_
 refine .as rfl (by rfl) ?_
 refine .s (f_store (n := 0) (o := 6) (off := 0) (p := []) (c := .d (eA22 (List.replicate 32 (0 : Int)))) (old := .d (eA22 (List.replicate 32 (0 : Int)))) (z := .d (eA22 y1)) (c' := .d (eA22 y1)) rfl rfl (by rfl) ty23 (by rfl)) rfl (.c rfl (.c rfl .nil)) (.cons rfl .nil) ?_
 refine .nil (aq_then ?_)
 refine aw_rs ?_
 refine .v (f_makeFunc (xs := []) (ys := [.ptr 2 0 []]) (by rfl) rfl rfl (by rfl) (by rfl)) rfl (.c rfl .nil) .nil ?_
 refine .as rfl (by rfl) ?_
 refine .nil (aq_then ?_)
 refine aw_seq ?_
 refine aw_rs ?_
 refine .v (f_load (n := 0) (o := 2) (off := 0) (p := []) (c := .ptr 0 0 []) (z := .ptr 0 0 []) (by rfl) rfl ty130 (by rfl)) rfl (.c rfl .nil) (.cons rfl .nil) ?_
 refine .v (f_nilCheck (by rfl)) rfl (.c rfl .nil) .nil ?_
 refine .v (f_fieldAddr (n := 0) (by rfl) fl132_0 (by decide)) rfl (.c rfl .nil) .nil ?_
 refine .v (f_fieldAddr (n := 0) (by rfl) fl74_0 (by decide)) rfl (.c rfl .nil) .nil ?_
 refine .v (f_load (n := 0) (o := 0) (off := ((0 + 0) + 0)) (p := [0, 0]) (c := .st [.st [.slc 1 0 ((a1).length) 33]]) (z := .slc 1 0 ((a1).length) 33) (by rfl) rfl ty72 (by rfl)) rfl (.c rfl .nil) (.cons rfl .nil) ?_
 refine .v (f_lenO (by rfl) sl72 rfl) rfl (.c rfl .nil) .nil ?_
 refine .mv rfl (by rfl) ?_
 refine .nil (aq_then ?_)
 refine aw_block ?_
 refine aw_weak (s' := ⟨[(2, .ptr 2 0 []), (3, .ptr 3 0 []), (5, .d (.val (.int .i64 (-1 : Int)))), (6, .ptr 6 0 []), (7, .fn (.func 120) [] [.ptr 2 0 []]), (17, .d (.val (.int .i64 ((a1).length : Int)))), (18, .d (.val (.int .i64 (0 : Int))))], [(2, .av (.ptr 0 0 [])), (3, .av (.d (eGTx a0))), (6, .av (.d (eA22 y1))), (0, .av (.st [.st [.slc 1 0 ((a1).length) 33]])), (1, .av (.d (.arr 33 ((a1).length) ((a1).map eGLine))))], []⟩) id hb0 (.keep rfl (.keep rfl (.keep rfl (.keep rfl (.keep rfl (.keep rfl (.keep rfl .nil))))))) (.keep rfl (.keep rfl (.keep rfl (.keep rfl (.keep rfl .nil))))) rfl (by rfl) ?_
 obtain ⟨o21, ho22, h⟩ := bind_some h
 refine aw_loopX (σ := Int × Int) (fun z => ⟨[(2, .ptr 2 0 []), (3, .ptr 3 0 []), (5, .d (.val (.int .i64 z.1))), (6, .ptr 6 0 []), (7, .fn (.func 120) [] [.ptr 2 0 []]), (17, .d (.val (.int .i64 ((a1).length : Int)))), (18, .d (.val (.int .i64 z.2)))], [(2, .av (.ptr 0 0 [])), (3, .av (.d (eGTx a0))), (6, .av (.d (eA22 y1))), (0, .av (.st [.st [.slc 1 0 ((a1).length) 33]])), (1, .av (.d (.arr 33 ((a1).length) ((a1).map eGLine))))], []⟩) (fun _ => (.exit 0)) (fun (o21 : Int) => ⟨[(5, .d (.val (.int .i64 o21)))], [(0, .av (.st [.st [.slc 1 0 ((a1).length) 33]])), (1, .av (.d (.arr 33 ((a1).length) ((a1).map eGLine))))], []⟩) ho22 (fun _ => rfl) ?_ ?_
 · clear h ho22
   rintro ⟨z0_0, z0_1⟩ o h
   change F94_shard_part_worst_647_s0 n a0 a1 y1 z0_0 z0_1 = some o at h
   unfold F94_shard_part_worst_647_s0 at h
   show AW _ _ _ ⟨[(2, .ptr 2 0 []), (3, .ptr 3 0 []), (5, .d (.val (.int .i64 z0_0))), (6, .ptr 6 0 []), (7, .fn (.func 120) [] [.ptr 2 0 []]), (17, .d (.val (.int .i64 ((a1).length : Int)))), (18, .d (.val (.int .i64 z0_1)))], [(2, .av (.ptr 0 0 [])), (3, .av (.d (eGTx a0))), (6, .av (.d (eA22 y1))), (0, .av (.st [.st [.slc 1 0 ((a1).length) 33]])), (1, .av (.d (.arr 33 ((a1).length) ((a1).map eGLine))))], []⟩
   refine aw_rs ?_
   refine .v (f_binI (by rfl) rfl (by rfl)) rfl (.c rfl (.c rfl .nil)) .nil ?_
   refine .nil (aq_then ?_)
   refine aw_seq ?_
   refine aw_cond rfl (fun hc3 => ?_) (fun hc3 => ?_)
   · replace h := ite_t hc3 h
     refine aw_skip ?_
     refine aq_then ?_
     refine aw_seq ?_
     obtain ⟨o19, ho20, h⟩ := bind_some h
     refine aw_join (.normal) ⟨[(2, .ptr 2 0 []), (3, .ptr 3 0 []), (5, .d (.val (.int .i64 o19))), (6, .ptr 6 0 []), (7, .fn (.func 120) [] [.ptr 2 0 []]), (17, .d (.val (.int .i64 ((a1).length : Int)))), (18, .d (.val (.int .i64 z0_1)))], [(2, .av (.ptr 0 0 [])), (3, .av (.d (eGTx a0))), (6, .av (.d (eA22 y1))), (0, .av (.st [.st [.slc 1 0 ((a1).length) 33]])), (1, .av (.d (.arr 33 ((a1).length) ((a1).map eGLine))))], []⟩ ?_ ?_
     · replace h := ho20
       refine aw_block ?_
       refine aw_rs ?_
       refine .mv rfl (by rfl) ?_
       refine .as rfl (by rfl) ?_
       refine .nil (aq_then ?_)
       refine aw_seq ?_
       obtain ⟨o16, ho18, h⟩ := bind_some h
       refine aw_join (.normal) ⟨[(2, .ptr 2 0 []), (3, .ptr 3 0 []), (5, .d (.val (.int .i64 z0_0))), (6, .ptr 6 0 []), (7, .fn (.func 120) [] [.ptr 2 0 []]), (8, .d (.val (.int .i64 z0_1))), (17, .d (.val (.int .i64 ((a1).length : Int)))), (18, .d (.val (.int .i64 z0_1))), (52, .d (.val (.bool o16)))], [(2, .av (.ptr 0 0 [])), (3, .av (.d (eGTx a0))), (6, .av (.d (eA22 y1))), (0, .av (.st [.st [.slc 1 0 ((a1).length) 33]])), (1, .av (.d (.arr 33 ((a1).length) ((a1).map eGLine))))], []⟩ ?_ ?_
       · replace h := ho18
         refine aw_rd ?_
         refine .v (f_load (n := 0) (o := 2) (off := 0) (p := []) (c := .ptr 0 0 []) (z := .ptr 0 0 []) (by rfl) rfl ty130 (by rfl)) rfl (.c rfl .nil) (.cons rfl .nil) ?_
         refine .v (f_nilCheck (by rfl)) rfl (.c rfl .nil) .nil ?_
         refine .v (f_fieldAddr (n := 0) (by rfl) fl132_0 (by decide)) rfl (.c rfl .nil) .nil ?_
         refine .v (f_fieldAddr (n := 0) (by rfl) fl74_0 (by decide)) rfl (.c rfl .nil) .nil ?_
         refine .v (f_load (n := 0) (o := 0) (off := ((0 + 0) + 0)) (p := [0, 0]) (c := .st [.st [.slc 1 0 ((a1).length) 33]]) (z := .slc 1 0 ((a1).length) 33) (by rfl) rfl ty72 (by rfl)) rfl (.c rfl .nil) (.cons rfl .nil) ?_
         refine .v (f_move (by rfl)) rfl (.c rfl .nil) .nil ?_
         obtain ⟨x4, hx5, h⟩ := bind_some h
         obtain ⟨hx6, hx5⟩ := rd_some hx5
         refine .v (f_indexSW (by rfl) sl72 hx6 (rd_map _ hx5)) rfl (.c rfl (.c rfl .nil)) (.cons rfl .nil) ?_
         refine .v (f_fieldAddr (n := 0) (by rfl) fl26_0 (by decide)) rfl (.c rfl .nil) .nil ?_
         refine .v (f_load (n := 0) (o := 1) (off := (((0 + (z0_1).toNat) * 33) + 0)) (p := [0 + (z0_1).toNat, 0]) (c := .d (.arr 33 ((a1).length) ((a1).map eGLine))) (z := .d (eA22 x4.From)) (by rfl) (at_map2 eGLine (by simpa using hx5) rfl rfl) ty23 (by rfl)) rfl (.c rfl .nil) (.cons rfl .nil) ?_
         refine .v (f_load (n := 0) (o := 6) (off := 0) (p := []) (c := .d (eA22 y1)) (z := .d (eA22 y1)) (by rfl) rfl ty23 (by rfl)) rfl (.c rfl .nil) (.cons rfl .nil) ?_
         refine .v (f_neqT (by rfl) (fit23 _) (fit23 _) (by rfl) (by rfl) gd23 (eq_eA22 _ _)) rfl (.c rfl (.c rfl .nil)) .nil ?_
         refine .v (f_move (by rfl)) rfl (.c rfl .nil) .nil ?_
         rcases Bool.eq_false_or_eq_true (!(decide (x4.From = y1))) with hc7 | hc7
         · replace h := ite_t hc7 h
           refine .gv (f_move (by rfl)) rfl rfl rfl hc7 (.c rfl .nil) .nil ?_
           refine .gv (f_move (by rfl)) rfl rfl rfl hc7 (.c rfl .nil) .nil ?_
           obtain ⟨y8, hy9, h⟩ := bind_some h
           refine .gw (f_callG0 (xs := [.d (.val (.int .i64 z0_1))]) (r := .d (.val (.int .u64 y8))) (fun i => bif Nat.beq i 2 then 1 else (bif Nat.beq i 1 then 0 else (bif Nat.beq i 0 then 2 else i))) [] hgl (by rfl) (cal_v (first := []) (caps := [.ptr 2 0 []]) en120) rfl (by rfl) (by rfl) (by rfl) (by rfl) (.cons (.same _) (.cons (.same _) .nil)) rfl rfl (F120_shard_part_worst_1_e00_ok hy9)) rfl rfl rfl hc7 (.c rfl (.c rfl .nil)) (.cons rfl (.cons rfl (.cons rfl .nil))) .nil ?_
           refine .gv (f_fieldAddr (n := 66) (by rfl) fl36_4 (by decide)) rfl rfl rfl hc7 (.c rfl .nil) .nil ?_
           refine .gv (f_load (n := 0) (o := 3) (off := (0 + 66)) (p := [4]) (c := .d (eGTx a0)) (z := .d (.val (.int .u64 a0.Fee))) (by rfl) rfl ty27 (by rfl)) rfl rfl rfl hc7 (.c rfl .nil) (.cons rfl .nil) ?_
           refine .gv (f_binI (by rfl) rfl (by rfl)) rfl rfl rfl hc7 (.c rfl (.c rfl .nil)) .nil ?_
           refine .v (f_pick_true (by rfl) hc7) rfl (.c rfl (.c rfl .nil)) .nil ?_
           refine .v (f_move (by rfl)) rfl (.c rfl .nil) .nil ?_
           rcases Bool.eq_false_or_eq_true (decide (y8 < a0.Fee)) with hc10 | hc10
           · replace h := ite_t hc10 h
             refine .gv (f_move (by rfl)) rfl rfl rfl hc10 (.c rfl .nil) .nil ?_
             refine .gv (f_binI (by rfl) rfl (by rfl)) rfl rfl rfl hc10 (.c rfl (.c rfl .nil)) .nil ?_
             refine .gv (f_move (by rfl)) rfl rfl rfl hc10 (.c rfl .nil) .nil ?_
             rcases Bool.eq_false_or_eq_true (decide (z0_0 < (0 : Int))) with hc11 | hc11
             · replace h := ite_t hc11 h
               refine .off rfl rfl rfl hc11 rfl (by rfl) ?_
               refine .off rfl rfl rfl hc11 rfl (by rfl) ?_
               refine .off rfl rfl rfl hc11 rfl (by rfl) ?_
               refine .off rfl rfl rfl hc11 rfl (by rfl) ?_
               refine .off rfl rfl rfl hc11 rfl (by rfl) ?_
               refine .off rfl rfl rfl hc11 rfl (by rfl) ?_
               refine .off rfl rfl rfl hc11 rfl (by rfl) ?_
               refine .gv (f_pick_true (by rfl) hc11) rfl rfl rfl hc10 (.c rfl (.c rfl .nil)) .nil ?_
               refine .v (f_pick_true (by rfl) hc10) rfl (.c rfl (.c rfl .nil)) .nil ?_
               refine .nil (by kernel_rfl) ?_
               obtain rfl := Option.some.inj h
               refine aq_weak (s' := ⟨[(2, .ptr 2 0 []), (3, .ptr 3 0 []), (5, .d (.val (.int .i64 z0_0))), (6, .ptr 6 0 []), (7, .fn (.func 120) [] [.ptr 2 0 []]), (8, .d (.val (.int .i64 z0_1))), (17, .d (.val (.int .i64 ((a1).length : Int)))), (18, .d (.val (.int .i64 z0_1))), (52, .d (.val (.bool true)))], [(2, .av (.ptr 0 0 [])), (3, .av (.d (eGTx a0))), (6, .av (.d (eA22 y1))), (0, .av (.st [.st [.slc 1 0 ((a1).length) 33]])), (1, .av (.d (.arr 33 ((a1).length) ((a1).map eGLine))))], []⟩) id hb0 (.keep rfl (.keep rfl (.keep rfl (.keep rfl (.keep rfl (.keep rfl (.keep rfl (.keep rfl (.keep rfl .nil))))))))) (.keep rfl (.keep rfl (.keep rfl (.keep rfl (.keep rfl .nil))))) rfl (by rfl) ?_
               exact jq
             replace h := ite_f hc11 h
             refine .gv (f_move (by rfl)) rfl rfl rfl hc11 (.c rfl .nil) .nil ?_
             refine .gv (f_move (by rfl)) rfl rfl rfl hc11 (.c rfl .nil) .nil ?_
             obtain ⟨y12, hy13, h⟩ := bind_some h
             refine .gw (f_callG0 (xs := [.d (.val (.int .i64 z0_1))]) (r := .d (.val (.int .u64 y12))) (fun i => bif Nat.beq i 2 then 1 else (bif Nat.beq i 1 then 0 else (bif Nat.beq i 0 then 2 else i))) [] hgl (by rfl) (cal_v (first := []) (caps := [.ptr 2 0 []]) en120) rfl (by rfl) (by rfl) (by rfl) (by rfl) (.cons (.same _) (.cons (.same _) .nil)) rfl rfl (F120_shard_part_worst_1_e00_ok hy13)) rfl rfl rfl hc11 (.c rfl (.c rfl .nil)) (.cons rfl (.cons rfl (.cons rfl .nil))) .nil ?_
             refine .gv (f_move (by rfl)) rfl rfl rfl hc11 (.c rfl .nil) .nil ?_
             refine .gv (f_move (by rfl)) rfl rfl rfl hc11 (.c rfl .nil) .nil ?_
             obtain ⟨y14, hy15, h⟩ := bind_some h
             refine .gw (f_callG0 (xs := [.d (.val (.int .i64 z0_0))]) (r := .d (.val (.int .u64 y14))) (fun i => bif Nat.beq i 2 then 1 else (bif Nat.beq i 1 then 0 else (bif Nat.beq i 0 then 2 else i))) [] hgl (by rfl) (cal_v (first := []) (caps := [.ptr 2 0 []]) en120) rfl (by rfl) (by rfl) (by rfl) (by rfl) (.cons (.same _) (.cons (.same _) .nil)) rfl rfl (F120_shard_part_worst_1_e00_ok hy15)) rfl rfl rfl hc11 (.c rfl (.c rfl .nil)) (.cons rfl (.cons rfl (.cons rfl .nil))) .nil ?_
             refine .gv (f_binI (by rfl) rfl (by rfl)) rfl rfl rfl hc11 (.c rfl (.c rfl .nil)) .nil ?_
             refine .gv (f_pick_false (by rfl) hc11) rfl rfl rfl hc10 (.c rfl (.c rfl .nil)) .nil ?_
             refine .v (f_pick_true (by rfl) hc10) rfl (.c rfl (.c rfl .nil)) .nil ?_
             refine .nil (by kernel_rfl) ?_
             obtain rfl := Option.some.inj h
             refine aq_weak (s' := ⟨[(2, .ptr 2 0 []), (3, .ptr 3 0 []), (5, .d (.val (.int .i64 z0_0))), (6, .ptr 6 0 []), (7, .fn (.func 120) [] [.ptr 2 0 []]), (8, .d (.val (.int .i64 z0_1))), (17, .d (.val (.int .i64 ((a1).length : Int)))), (18, .d (.val (.int .i64 z0_1))), (52, .d (.val (.bool (decide (y12 < y14)))))], [(2, .av (.ptr 0 0 [])), (3, .av (.d (eGTx a0))), (6, .av (.d (eA22 y1))), (0, .av (.st [.st [.slc 1 0 ((a1).length) 33]])), (1, .av (.d (.arr 33 ((a1).length) ((a1).map eGLine))))], []⟩) id hb0 (.keep rfl (.keep rfl (.keep rfl (.keep rfl (.keep rfl (.keep rfl (.keep rfl (.keep rfl (.keep rfl .nil))))))))) (.keep rfl (.keep rfl (.keep rfl (.keep rfl (.keep rfl .nil))))) rfl (by rfl) ?_
             exact jq
           replace h := ite_f hc10 h
           refine .off rfl rfl rfl hc10 rfl (by rfl) ?_
           refine .off rfl rfl rfl hc10 rfl (by rfl) ?_
           refine .off rfl rfl rfl hc10 rfl (by rfl) ?_
           refine .offu rfl rfl rfl rfl (by rfl) ?_
           refine .offu rfl rfl rfl rfl (by rfl) ?_
           refine .offu rfl rfl rfl rfl (by rfl) ?_
           refine .offu rfl rfl rfl rfl (by rfl) ?_
           refine .offu rfl rfl rfl rfl (by rfl) ?_
           refine .offu rfl rfl rfl rfl (by rfl) ?_
           refine .offu rfl rfl rfl rfl (by rfl) ?_
           refine .off rfl rfl rfl hc10 rfl (by rfl) ?_
           refine .v (f_pick_false (by rfl) hc10) rfl (.c rfl (.c rfl .nil)) .nil ?_
           refine .nil (by kernel_rfl) ?_
           obtain rfl := Option.some.inj h
           refine aq_weak (s' := ⟨[(2, .ptr 2 0 []), (3, .ptr 3 0 []), (5, .d (.val (.int .i64 z0_0))), (6, .ptr 6 0 []), (7, .fn (.func 120) [] [.ptr 2 0 []]), (8, .d (.val (.int .i64 z0_1))), (17, .d (.val (.int .i64 ((a1).length : Int)))), (18, .d (.val (.int .i64 z0_1))), (52, .d (.val (.bool false)))], [(2, .av (.ptr 0 0 [])), (3, .av (.d (eGTx a0))), (6, .av (.d (eA22 y1))), (0, .av (.st [.st [.slc 1 0 ((a1).length) 33]])), (1, .av (.d (.arr 33 ((a1).length) ((a1).map eGLine))))], []⟩) id hb0 (.keep rfl (.keep rfl (.keep rfl (.keep rfl (.keep rfl (.keep rfl (.keep rfl (.keep rfl (.keep rfl .nil))))))))) (.keep rfl (.keep rfl (.keep rfl (.keep rfl (.keep rfl .nil))))) rfl (by rfl) ?_
           exact jq
         replace h := ite_f hc7 h
         refine .off rfl rfl rfl hc7 rfl (by rfl) ?_
         refine .off rfl rfl rfl hc7 rfl (by rfl) ?_
         refine .off rfl rfl rfl hc7 rfl (by rfl) ?_
         refine .off rfl rfl rfl hc7 rfl (by rfl) ?_
         refine .off rfl rfl rfl hc7 rfl (by rfl) ?_
         refine .off rfl rfl rfl hc7 rfl (by rfl) ?_
         refine .v (f_pick_false (by rfl) hc7) rfl (.c rfl (.c rfl .nil)) .nil ?_
         refine .v (f_move (by rfl)) rfl (.c rfl .nil) .nil ?_
         refine .off rfl rfl rfl rfl rfl (by rfl) ?_
         refine .off rfl rfl rfl rfl rfl (by rfl) ?_
         refine .off rfl rfl rfl rfl rfl (by rfl) ?_
         refine .offu rfl rfl rfl rfl (by rfl) ?_
         refine .offu rfl rfl rfl rfl (by rfl) ?_
         refine .offu rfl rfl rfl rfl (by rfl) ?_
         refine .offu rfl rfl rfl rfl (by rfl) ?_
         refine .offu rfl rfl rfl rfl (by rfl) ?_
         refine .offu rfl rfl rfl rfl (by rfl) ?_
         refine .offu rfl rfl rfl rfl (by rfl) ?_
         refine .off rfl rfl rfl rfl rfl (by rfl) ?_
         refine .v (f_pick_false (by rfl) rfl) rfl (.c rfl (.c rfl .nil)) .nil ?_
         refine .nil (by kernel_rfl) ?_
         obtain rfl := Option.some.inj h
         refine aq_weak (s' := ⟨[(2, .ptr 2 0 []), (3, .ptr 3 0 []), (5, .d (.val (.int .i64 z0_0))), (6, .ptr 6 0 []), (7, .fn (.func 120) [] [.ptr 2 0 []]), (8, .d (.val (.int .i64 z0_1))), (17, .d (.val (.int .i64 ((a1).length : Int)))), (18, .d (.val (.int .i64 z0_1))), (52, .d (.val (.bool false)))], [(2, .av (.ptr 0 0 [])), (3, .av (.d (eGTx a0))), (6, .av (.d (eA22 y1))), (0, .av (.st [.st [.slc 1 0 ((a1).length) 33]])), (1, .av (.d (.arr 33 ((a1).length) ((a1).map eGLine))))], []⟩) id hb0 (.keep rfl (.keep rfl (.keep rfl (.keep rfl (.keep rfl (.keep rfl (.keep rfl (.keep rfl (.keep rfl .nil))))))))) (.keep rfl (.keep rfl (.keep rfl (.keep rfl (.keep rfl .nil))))) rfl (by rfl) ?_
         exact jq
       refine aq_then ?_
       refine aw_cond rfl (fun hc17 => ?_) (fun hc17 => ?_)
       · replace h := ite_t hc17 h
         refine aw_r ?_
         refine .mv rfl (by rfl) ?_
         refine .as rfl (by rfl) ?_
         refine .nil ?_
         refine aq_block ?_
         obtain rfl := Option.some.inj h
         refine aq_weak (s' := ⟨[(2, .ptr 2 0 []), (3, .ptr 3 0 []), (5, .d (.val (.int .i64 z0_1))), (6, .ptr 6 0 []), (7, .fn (.func 120) [] [.ptr 2 0 []]), (17, .d (.val (.int .i64 ((a1).length : Int)))), (18, .d (.val (.int .i64 z0_1)))], [(2, .av (.ptr 0 0 [])), (3, .av (.d (eGTx a0))), (6, .av (.d (eA22 y1))), (0, .av (.st [.st [.slc 1 0 ((a1).length) 33]])), (1, .av (.d (.arr 33 ((a1).length) ((a1).map eGLine))))], []⟩) id hb0 (.keep rfl (.keep rfl (.keep rfl (.keep rfl (.keep rfl (.keep rfl (.keep rfl .nil))))))) (.keep rfl (.keep rfl (.keep rfl (.keep rfl (.keep rfl .nil))))) rfl (by rfl) ?_
         exact jq
       replace h := ite_f hc17 h
       refine aw_skip ?_
       refine aq_block ?_
       obtain rfl := Option.some.inj h
       refine aq_weak (s' := ⟨[(2, .ptr 2 0 []), (3, .ptr 3 0 []), (5, .d (.val (.int .i64 z0_0))), (6, .ptr 6 0 []), (7, .fn (.func 120) [] [.ptr 2 0 []]), (17, .d (.val (.int .i64 ((a1).length : Int)))), (18, .d (.val (.int .i64 z0_1)))], [(2, .av (.ptr 0 0 [])), (3, .av (.d (eGTx a0))), (6, .av (.d (eA22 y1))), (0, .av (.st [.st [.slc 1 0 ((a1).length) 33]])), (1, .av (.d (.arr 33 ((a1).length) ((a1).map eGLine))))], []⟩) id hb0 (.keep rfl (.keep rfl (.keep rfl (.keep rfl (.keep rfl (.keep rfl (.keep rfl .nil))))))) (.keep rfl (.keep rfl (.keep rfl (.keep rfl (.keep rfl .nil))))) rfl (by rfl) ?_
       exact jq
     refine aq_then ?_
     refine aw_r ?_
     refine .v (f_binI (by rfl) rfl (by rfl)) rfl (.c rfl (.c rfl .nil)) .nil ?_
     refine .mv rfl (by rfl) ?_
     refine .nil ?_
     obtain rfl := Option.some.inj h
     refine aq_weak (s' := ⟨[(2, .ptr 2 0 []), (3, .ptr 3 0 []), (5, .d (.val (.int .i64 o19))), (6, .ptr 6 0 []), (7, .fn (.func 120) [] [.ptr 2 0 []]), (17, .d (.val (.int .i64 ((a1).length : Int)))), (18, .d (.val (.int .i64 (IntKind.i64.wrap (z0_1 + (1 : Int))))))], [(2, .av (.ptr 0 0 [])), (3, .av (.d (eGTx a0))), (6, .av (.d (eA22 y1))), (0, .av (.st [.st [.slc 1 0 ((a1).length) 33]])), (1, .av (.d (.arr 33 ((a1).length) ((a1).map eGLine))))], []⟩) id hb0 (.keep rfl (.keep rfl (.keep rfl (.keep rfl (.keep rfl (.keep rfl (.keep rfl .nil))))))) (.keep rfl (.keep rfl (.keep rfl (.keep rfl (.keep rfl .nil))))) rfl (by rfl) ?_
     exact jq
   replace h := ite_f hc3 h
   refine aw_exit ?_
   refine aq_then_exit ?_
   obtain rfl := Option.some.inj h
   refine aq_weak (s' := ⟨[(5, .d (.val (.int .i64 z0_0)))], [(0, .av (.st [.st [.slc 1 0 ((a1).length) 33]])), (1, .av (.d (.arr 33 ((a1).length) ((a1).map eGLine))))], []⟩) id hb0 (.keep rfl .nil) (.keep rfl (.keep rfl .nil)) rfl (by rfl) ?_
   exact jq
 refine aq_block_exit ?_
 refine aq_then ?_
 refine aw_rs ?_
 refine .mv rfl (by rfl) ?_
 refine .as rfl (by rfl) ?_
 refine .nil (aq_then ?_)
 refine aw_ret ?_
 obtain rfl := Option.some.inj h
 refine aq_weak (s' := ⟨[(4, .d (.val (.int .i64 o21)))], [(0, .av (.st [.st [.slc 1 0 ((a1).length) 33]])), (1, .av (.d (.arr 33 ((a1).length) ((a1).map eGLine))))], []⟩) id hb0 (.keep rfl .nil) (.keep rfl (.keep rfl .nil)) rfl (by rfl) ?_
 exact aq_fin1 (.tmp rfl (by rfl) .nil) rfl ⟨rfl, rfl⟩

/- 95: (*beadroll/shard.part).set -/
def F95_shard_part_set_ddb (n : Nat) (a0 : GLine) (a1 : (List GLine)) : Option (List GLine) :=
  ((F119_shard_part_find_363 n a0.From a1).bind fun (y1 : Int × Bool) => (((if y1.2 = true then some (((a0.Txs).length : Int) == (0 : Int)) else some false)).bind fun (o4 : Bool) => (if o4 = true then ((F121_Delete n y1.1 (IntKind.i64.wrap (y1.1 + (1 : Int))) a1).bind fun (y6 : List GLine) => some y6) else (if y1.2 = true then ((rd a1 y1.1).bind fun (x9 : GLine) => some (a1.set (0 + (y1.1).toNat) a0)) else (if (decide (((a0.Txs).length : Int) > (0 : Int))) = true then ((F122_Insert n y1.1 a1 ([a0] : List GLine)).bind fun (y13 : List GLine) => some y13) else some a1)))))
theorem F95_shard_part_set_ddb_ok {n : Nat} {a0 : GLine} {a1 : (List GLine)} {r : List GLine} (h : F95_shard_part_set_ddb n a0 a1 = some r) :
    ACall Tryd.prog GS 95 [.ptr 0 0 [], .d (eGLine a0)] [(0, .av (.st [.st [.slc 1 0 ((a1).length) 33]])), (1, .av (.d (.arr 33 ((a1).length) ((a1).map eGLine))))] (fun r' hp' => r' = .res [] ∧ hp' = [(0, .av (.st [.st [.slc 1057 0 ((r).length) 33]])), (1, .dead), (1057, .av (.d (.arr 33 ((r).length) ((r).map eGLine))))]) := by
 refine acall_of_body mixed Tryd.func95 rfl (by rfl) ?_
 intro C hro hgl hb0
 unfold F95_shard_part_set_ddb at h
 refine aw_rs ?_
 refine .n (f_box 3 (by rfl) (by rfl)) rfl (.c rfl .nil) rfl ?_
 refine .nil (aq_then ?_)
 refine aw_rs ?_
 refine .mv rfl (by rfl) ?_
 refine .v (f_makeFunc (xs := [.ptr 0 0 []]) (ys := []) (by rfl) rfl rfl (by rfl) (by rfl)) rfl (.c rfl .nil) .nil ?_
 refine .as rfl (by rfl) ?_
 refine .nil (aq_then ?_)
 refine aw_rs ?_
 refine .mv rfl (by rfl) ?_
 refine .v (f_fieldAddr (n := 0) (by rfl) fl26_0 (by decide)) rfl (.c rfl .nil) .nil ?_
 refine .v (f_load (n := 0) (o := 3) (off := (0 + 0)) (p := [0]) (c := .d (eGLine a0)) (z := .d (eA22 a0.From)) (by rfl) rfl ty23 (by rfl)) rfl (.c rfl .nil) (.cons rfl .nil) ?_
 obtain ⟨y1, hy2, h⟩ := bind_some h
 refine .w (f_callG0 (xs := [.d (eA22 a0.From)]) (r := .res [.d (.val (.int .i64 y1.1)), .d (.val (.bool y1.2))]) (fun i => i) [] hgl (by rfl) (cal_v (first := [.ptr 0 0 []]) (caps := []) en119) rfl (by rfl) (by rfl) (by rfl) (by rfl) (.cons (.same _) (.cons (.same _) .nil)) rfl rfl (F119_shard_part_find_363_ok hy2)) rfl (.c rfl (.c rfl .nil)) (.cons rfl (.cons rfl .nil)) .nil ?_
 refine .mv rfl (by rfl) ?_
 refine .v (f_extract (by rfl) rfl) rfl (.c rfl .nil) .nil ?_
 refine .v (f_extract (by rfl) rfl) rfl (.c rfl .nil) .nil ?_
 refine .as rfl (by rfl) ?_
 refine .as rfl (by rfl) ?_
 refine .nil (aq_then ?_)
 refine aw_block ?_
 refine aw_seq ?_
 obtain ⟨o4, ho15, h⟩ := bind_some h
 refine aw_join (.normal) ⟨[(0, .ptr 0 0 []), (3, .ptr 3 0 []), (5, .d (.val (.int .i64 y1.1))), (6, .d (.val (.bool y1.2))), (16, .d (.val (.bool o4)))], [(0, .av (.st [.st [.slc 1 0 ((a1).length) 33]])), (3, .av (.d (eGLine a0))), (1, .av (.d (.arr 33 ((a1).length) ((a1).map eGLine))))], []⟩ ?_ ?_
 · replace h := ho15
   refine aw_r ?_
   refine .mv rfl (by rfl) ?_
   refine .mv rfl (by rfl) ?_
   rcases Bool.eq_false_or_eq_true y1.2 with hc3 | hc3
   · replace h := ite_t hc3 h
     refine .gv (f_fieldAddr (n := 32) (by rfl) fl26_1 (by decide)) rfl rfl rfl hc3 (.c rfl .nil) .nil ?_
     refine .gv (f_load (n := 0) (o := 3) (off := (0 + 32)) (p := [1]) (c := .d (eGLine a0)) (z := .d (eL24 a0.Txs)) (by rfl) rfl ty24 (by rfl)) rfl rfl rfl hc3 (.c rfl .nil) (.cons rfl .nil) ?_
     refine .gv (f_lenD (n := (a0.Txs).length) (by rfl) sl24 rfl (by simp)) rfl rfl rfl hc3 (.c rfl .nil) .nil ?_
     refine .gv (f_binI (by rfl) rfl (by rfl)) rfl rfl rfl hc3 (.c rfl (.c rfl .nil)) .nil ?_
     refine .v (f_pick_true (by rfl) hc3) rfl (.c rfl (.c rfl .nil)) .nil ?_
     refine .as rfl (by rfl) ?_
     refine .nil ?_
     obtain rfl := Option.some.inj h
     refine aq_weak (s' := ⟨[(0, .ptr 0 0 []), (3, .ptr 3 0 []), (5, .d (.val (.int .i64 y1.1))), (6, .d (.val (.bool y1.2))), (16, .d (.val (.bool (((a0.Txs).length : Int) == (0 : Int)))))], [(0, .av (.st [.st [.slc 1 0 ((a1).length) 33]])), (3, .av (.d (eGLine a0))), (1, .av (.d (.arr 33 ((a1).length) ((a1).map eGLine))))], []⟩) id hb0 (.keep rfl (.keep rfl (.keep rfl (.keep rfl (.keep rfl .nil))))) (.keep rfl (.keep rfl (.keep rfl .nil))) rfl (by rfl) ?_
     exact jq
   replace h := ite_f hc3 h
   refine .off rfl rfl rfl hc3 rfl (by rfl) ?_
   refine .off rfl rfl rfl hc3 rfl (by rfl) ?_
   refine .off rfl rfl rfl hc3 rfl (by rfl) ?_
   refine .off rfl rfl rfl hc3 rfl (by rfl) ?_
   refine .v (f_pick_false (by rfl) hc3) rfl (.c rfl (.c rfl .nil)) .nil ?_
   refine .as rfl (by rfl) ?_
   refine .nil ?_
   obtain rfl := Option.some.inj h
   refine aq_weak (s' := ⟨[(0, .ptr 0 0 []), (3, .ptr 3 0 []), (5, .d (.val (.int .i64 y1.1))), (6, .d (.val (.bool y1.2))), (16, .d (.val (.bool false)))], [(0, .av (.st [.st [.slc 1 0 ((a1).length) 33]])), (3, .av (.d (eGLine a0))), (1, .av (.d (.arr 33 ((a1).length) ((a1).map eGLine))))], []⟩) id hb0 (.keep rfl (.keep rfl (.keep rfl (.keep rfl (.keep rfl .nil))))) (.keep rfl (.keep rfl (.keep rfl .nil))) rfl (by rfl) ?_
   exact jq
 refine aq_then ?_
 refine aw_cond rfl (fun hc5 => ?_) (fun hc5 => ?_)
 · replace h := ite_t hc5 h
   refine aw_r ?_
   refine .mv rfl (by rfl) ?_
   refine .mv rfl (by rfl) ?_
   refine .v (f_nilCheck (by rfl)) rfl (.c rfl .nil) .nil ?_
   refine .v (f_fieldAddr (n := 0) (by rfl) fl132_0 (by decide)) rfl (.c rfl .nil) .nil ?_
   refine .v (f_fieldAddr (n := 0) (by rfl) fl74_0 (by decide)) rfl (.c rfl .nil) .nil ?_
   refine .v (f_load (n := 0) (o := 0) (off := ((0 + 0) + 0)) (p := [0, 0]) (c := .st [.st [.slc 1 0 ((a1).length) 33]]) (z := .slc 1 0 ((a1).length) 33) (by rfl) rfl ty72 (by rfl)) rfl (.c rfl .nil) (.cons rfl .nil) ?_
   refine .mv rfl (by rfl) ?_
   refine .mv rfl (by rfl) ?_
   refine .v (f_binI (by rfl) rfl (by rfl)) rfl (.c rfl (.c rfl .nil)) .nil ?_
   obtain ⟨y6, hy7, h⟩ := bind_some h
   refine .w (f_callG (xs := [.slc 1 0 ((a1).length) 33, .d (.val (.int .i64 y1.1)), .d (.val (.int .i64 (IntKind.i64.wrap (y1.1 + (1 : Int)))))]) (r := .slc 1057 0 ((y6).length) 33) (hw := [(1057, .av (.d (.arr 33 ((y6).length) ((y6).map eGLine)))), (1, .dead)]) (fun i => bif Nat.beq i 1 then 1057 else (bif Nat.beq i 0 then 1 else i)) [] hgl (by rfl) (cal_f en121) rfl (by rfl) (by rfl) (by rfl) (by rfl) (.cons (.same _) (.cons (.same _) (.cons (.same _) .nil))) rfl rfl rfl rfl (F121_Delete_ok hy7)) rfl (.c rfl (.c rfl (.c rfl .nil))) (.cons rfl .nil) (.cons rfl .nil) ?_
   refine .v (f_nilCheck (by rfl)) rfl (.c rfl .nil) .nil ?_
   refine .v (f_fieldAddr (n := 0) (by rfl) fl132_0 (by decide)) rfl (.c rfl .nil) .nil ?_
   refine .v (f_fieldAddr (n := 0) (by rfl) fl74_0 (by decide)) rfl (.c rfl .nil) .nil ?_
   refine .s (f_store (n := 0) (o := 0) (off := ((0 + 0) + 0)) (p := [0, 0]) (c := .st [.st [.slc 1 0 ((a1).length) 33]]) (old := .slc 1 0 ((a1).length) 33) (z := .slc 1057 0 ((y6).length) 33) (c' := .st [.st [.slc 1057 0 ((y6).length) 33]]) rfl rfl (by rfl) ty72 (by rfl)) rfl (.c rfl (.c rfl .nil)) (.cons rfl .nil) ?_
   refine .nil ?_
   refine aq_block ?_
   obtain rfl := Option.some.inj h
   refine aq_weak (s' := ⟨[], [(0, .av (.st [.st [.slc 1057 0 ((y6).length) 33]])), (1, .dead), (1057, .av (.d (.arr 33 ((y6).length) ((y6).map eGLine))))], []⟩) id hb0 .nil (.keep rfl (.keepH rfl (.keep rfl .nil))) rfl (by rfl) ?_
   exact aq_fin0 .nil rfl ⟨rfl, rfl⟩
 replace h := ite_f hc5 h
 refine aw_rs ?_
 refine .mv rfl (by rfl) ?_
 refine .as rfl (by rfl) ?_
 refine .nil (aq_then ?_)
 refine aw_cond rfl (fun hc8 => ?_) (fun hc8 => ?_)
 · replace h := ite_t hc8 h
   refine aw_rd ?_
   refine .v (f_move (by rfl)) rfl (.c rfl .nil) .nil ?_
   refine .v (f_nilCheck (by rfl)) rfl (.c rfl .nil) .nil ?_
   refine .v (f_fieldAddr (n := 0) (by rfl) fl132_0 (by decide)) rfl (.c rfl .nil) .nil ?_
   refine .v (f_fieldAddr (n := 0) (by rfl) fl74_0 (by decide)) rfl (.c rfl .nil) .nil ?_
   refine .v (f_load (n := 0) (o := 0) (off := ((0 + 0) + 0)) (p := [0, 0]) (c := .st [.st [.slc 1 0 ((a1).length) 33]]) (z := .slc 1 0 ((a1).length) 33) (by rfl) rfl ty72 (by rfl)) rfl (.c rfl .nil) (.cons rfl .nil) ?_
   refine .v (f_move (by rfl)) rfl (.c rfl .nil) .nil ?_
   refine .v (f_load (n := 0) (o := 3) (off := 0) (p := []) (c := .d (eGLine a0)) (z := .d (eGLine a0)) (by rfl) rfl ty26 (by rfl)) rfl (.c rfl .nil) (.cons rfl .nil) ?_
   obtain ⟨x9, hx10, h⟩ := bind_some h
   obtain ⟨hx11, hx10⟩ := rd_some hx10
   refine .v (f_indexSW (by rfl) sl72 hx11 (rd_map _ hx10)) rfl (.c rfl (.c rfl .nil)) (.cons rfl .nil) ?_
   refine .s (f_store (n := 0) (o := 1) (off := ((0 + (y1.1).toNat) * 33)) (p := [0 + (y1.1).toNat]) (c := .d (.arr 33 ((a1).length) ((a1).map eGLine))) (old := .d (eGLine x9)) (z := .d (eGLine a0)) (c' := .d (.arr 33 ((a1).length) (((a1.set (0 + (y1.1).toNat) a0)).map eGLine))) (at_map _ (by simpa using hx10) rfl) (put_map _ (by simpa using hx10)) (by rfl) ty26 (by rfl)) rfl (.c rfl (.c rfl .nil)) (.cons rfl .nil) ?_
   refine .nil (by kernel_rfl) ?_
   refine aq_block ?_
   obtain rfl := Option.some.inj h
   refine aq_moveH 0 1 1060 rfl rfl rfl rfl rfl ?_
   refine aq_weak (s' := ⟨[], [(0, .av (.st [.st [.slc 1057 0 (((a1.set (0 + (y1.1).toNat) a0)).length) 33]])), (1, .dead), (1057, .av (.d (.arr 33 (((a1.set (0 + (y1.1).toNat) a0)).length) (((a1.set (0 + (y1.1).toNat) a0)).map eGLine))))], []⟩) (fun i => (bif Nat.beq i 1057 then 1060 else i)) hb0 .nil (.cons (by simp only [List.length_set]; rfl) (.cons rfl (.cons (by simp only [List.length_set]; rfl) .nil))) rfl (by rfl) ?_
   exact aq_fin0 .nil rfl ⟨rfl, rfl⟩
 replace h := ite_f hc8 h
 refine aw_rs ?_
 refine .v (f_fieldAddr (n := 32) (by rfl) fl26_1 (by decide)) rfl (.c rfl .nil) .nil ?_
 refine .v (f_load (n := 0) (o := 3) (off := (0 + 32)) (p := [1]) (c := .d (eGLine a0)) (z := .d (eL24 a0.Txs)) (by rfl) rfl ty24 (by rfl)) rfl (.c rfl .nil) (.cons rfl .nil) ?_
 refine .v (f_lenD (n := (a0.Txs).length) (by rfl) sl24 rfl (by simp)) rfl (.c rfl .nil) .nil ?_
 refine .v (f_binI (by rfl) rfl (by rfl)) rfl (.c rfl (.c rfl .nil)) .nil ?_
 refine .as rfl (by rfl) ?_
 refine .nil (aq_then ?_)
 refine aw_cond rfl (fun hc12 => ?_) (fun hc12 => ?_)
 · replace h := ite_t hc12 h
   refine aw_rd ?_
   refine .v (f_move (by rfl)) rfl (.c rfl .nil) .nil ?_
   refine .v (f_move (by rfl)) rfl (.c rfl .nil) .nil ?_
   refine .v (f_nilCheck (by rfl)) rfl (.c rfl .nil) .nil ?_
   refine .v (f_fieldAddr (n := 0) (by rfl) fl132_0 (by decide)) rfl (.c rfl .nil) .nil ?_
   refine .v (f_fieldAddr (n := 0) (by rfl) fl74_0 (by decide)) rfl (.c rfl .nil) .nil ?_
   refine .v (f_load (n := 0) (o := 0) (off := ((0 + 0) + 0)) (p := [0, 0]) (c := .st [.st [.slc 1 0 ((a1).length) 33]]) (z := .slc 1 0 ((a1).length) 33) (by rfl) rfl ty72 (by rfl)) rfl (.c rfl .nil) (.cons rfl .nil) ?_
   refine .v (f_move (by rfl)) rfl (.c rfl .nil) .nil ?_
   refine .v (f_load (n := 0) (o := 3) (off := 0) (p := []) (c := .d (eGLine a0)) (z := .d (eGLine a0)) (by rfl) rfl ty26 (by rfl)) rfl (.c rfl .nil) (.cons rfl .nil) ?_
   refine .n (f_buildS (xs := [(0, .d (eGLine a0))]) (z := (.st [(eA22 (List.replicate 32 (0 : Int))), (.val (.slice none 0 0))])) (zs := (([a0] : List GLine)).map eGLine) 1058 (by rfl) el72 zel72 (by rfl) (by decide) (by decide) rfl (by rfl) ⟨_, _, _, rfl, pl72_0, rfl, rfl, trivial⟩ (by rfl)) rfl (.c rfl .nil) rfl ?_
   obtain ⟨y13, hy14, h⟩ := bind_some h
   refine .w (f_callG (xs := [.slc 1 0 ((a1).length) 33, .d (.val (.int .i64 y1.1)), .slc 1058 0 ((([a0] : List GLine)).length) 33]) (r := .slc 1059 0 ((y13).length) 33) (hw := [(1059, .av (.d (.arr 33 ((y13).length) ((y13).map eGLine)))), (1, .dead), (1058, .av (.d (.arr 33 ((([a0] : List GLine)).length) ((([a0] : List GLine)).map eGLine))))]) (fun i => bif Nat.beq i 2 then 1059 else (bif Nat.beq i 1 then 1058 else (bif Nat.beq i 0 then 1 else i))) [] hgl (by rfl) (cal_f en122) rfl (by rfl) (by rfl) (by rfl) (by rfl) (.cons (.same _) (.cons (.same _) (.cons (.same _) .nil))) rfl rfl rfl rfl (F122_Insert_ok hy14)) rfl (.c rfl (.c rfl (.c rfl .nil))) (.cons rfl (.cons rfl .nil)) (.cons rfl .nil) ?_
   refine .v (f_nilCheck (by rfl)) rfl (.c rfl .nil) .nil ?_
   refine .v (f_fieldAddr (n := 0) (by rfl) fl132_0 (by decide)) rfl (.c rfl .nil) .nil ?_
   refine .v (f_fieldAddr (n := 0) (by rfl) fl74_0 (by decide)) rfl (.c rfl .nil) .nil ?_
   refine .s (f_store (n := 0) (o := 0) (off := ((0 + 0) + 0)) (p := [0, 0]) (c := .st [.st [.slc 1 0 ((a1).length) 33]]) (old := .slc 1 0 ((a1).length) 33) (z := .slc 1059 0 ((y13).length) 33) (c' := .st [.st [.slc 1059 0 ((y13).length) 33]]) rfl rfl (by rfl) ty72 (by rfl)) rfl (.c rfl (.c rfl .nil)) (.cons rfl .nil) ?_
   refine .nil (by kernel_rfl) ?_
   refine aq_block ?_
   obtain rfl := Option.some.inj h
   refine aq_weak (s' := ⟨[], [(0, .av (.st [.st [.slc 1057 0 ((y13).length) 33]])), (1, .dead), (1057, .av (.d (.arr 33 ((y13).length) ((y13).map eGLine))))], []⟩) (fun i => (bif Nat.beq i 1057 then 1059 else i)) hb0 .nil (.cons rfl (.cons rfl (.cons rfl .nil))) rfl (by rfl) ?_
   exact aq_fin0 .nil rfl ⟨rfl, rfl⟩
 replace h := ite_f hc12 h
 refine aw_skip ?_
 refine aq_block ?_
 obtain rfl := Option.some.inj h
 refine aq_moveH 0 1 1061 rfl rfl rfl rfl rfl ?_
 refine aq_weak (s' := ⟨[], [(0, .av (.st [.st [.slc 1057 0 ((a1).length) 33]])), (1, .dead), (1057, .av (.d (.arr 33 ((a1).length) ((a1).map eGLine))))], []⟩) (fun i => (bif Nat.beq i 1057 then 1061 else i)) hb0 .nil (.cons rfl (.cons rfl (.cons rfl .nil))) rfl (by rfl) ?_
 exact aq_fin0 .nil rfl ⟨rfl, rfl⟩

/- 50: beadroll/shard.Submit -/
def F50_shard_Submit (n : Nat) (a0 : GShard) (a1 : Int) (a2 : Int) (a3 : GTx) : Option (GShard × (List GTx) × Int) :=
  ((F52_shard_Check n a0).bind fun (y1 : Int) => (if (y1 != (0 : Int)) = true then some ((⟨[]⟩ : GShard), [], (8 : Int)) else ((F38_tx_Check n a3).bind fun (y4 : Int) => (if (y4 != (0 : Int)) = true then some ((⟨[]⟩ : GShard), [], (110 : Int)) else (if (decide (a3.Nonce < a2)) = true then some ((⟨[]⟩ : GShard), [], (200 : Int)) else (((if (decide ((IntKind.u64.wrap (a3.Nonce - a2)) ≥ (16 : Int))) = true then some true else some (a3.Nonce == (18446744073709551615 : Int)))).bind fun (o9 : Bool) => (if o9 = true then some ((⟨[]⟩ : GShard), [], (201 : Int)) else ((F61_shard_Twin n a0).bind fun (y11 : List GLine) => ((F39_tx_From n a3).bind fun (y13 : (List Int)) => ((F93_shard_part_line_ec6 n y13 y11).bind fun (y15 : GLine) => ((F34_queue_Put n y15 a3).bind fun (y17 : GLine × (List GTx) × Int) => (((if (y17.2.2 != (0 : Int)) = true then some (y17.2.2 != (9 : Int)) else some false)).bind fun (o20 : Bool) => (if o20 = true then some ((⟨[]⟩ : GShard), [], y17.2.2) else (if (y17.2.2 == (9 : Int)) = true then some ((⟨[]⟩ : GShard), [], (9 : Int)) else (((if (((y17.2.1).length : Int) == (0 : Int)) = true then ((F53_shard_Count n a0).bind fun (y24 : Int) => some (decide (y24 ≥ a1))) else some false)).bind fun (o26 : Bool) => (if o26 = true then ((F94_shard_part_worst_647 n a3 y11).bind fun (y28 : Int) => (if (decide (y28 < (0 : Int))) = true then some ((⟨[]⟩ : GShard), [], (9 : Int)) else ((rd y11 y28).bind fun (x31 : GLine) => ((rd x31.Txs (IntKind.i64.wrap (((x31.Txs).length : Int) - (1 : Int)))).bind fun (x34 : GTx) => (if 0 ≤ (0 : Int) ∧ (0 : Int) ≤ (IntKind.i64.wrap (((x31.Txs).length : Int) - (1 : Int))) ∧ (IntKind.i64.wrap (((x31.Txs).length : Int) - (1 : Int))) ≤ ((x31.Txs).length : Int) then ((F95_shard_part_set_ddb n ({ x31 with Txs := ((x31.Txs).take ((IntKind.i64.wrap (((x31.Txs).length : Int) - (1 : Int)))).toNat) }) y11).bind fun (y38 : List GLine) => ((F95_shard_part_set_ddb n y17.1 y38).bind fun (y40 : List GLine) => some ((⟨y40⟩ : GShard), ([x34] : List GTx), (0 : Int)))) else none))))) else ((F95_shard_part_set_ddb n y17.1 y11).bind fun (y42 : List GLine) => some ((⟨y42⟩ : GShard), y17.2.1, (0 : Int)))))))))))))))))))
theorem F50_shard_Submit_ok {n : Nat} {a0 : GShard} {a1 : Int} {a2 : Int} {a3 : GTx} {r : GShard × (List GTx) × Int} (h : F50_shard_Submit n a0 a1 a2 a3 = some r) :
    ACall Tryd.prog GS 50 [.d (eGShard a0), .d (.val (.int .i64 a1)), .d (.val (.int .u64 a2)), .d (eGTx a3)] [] (fun r' hp' => r' = .res [.d (eGShard r.1), .d (eL24 r.2.1), .d (.val (.int .i64 r.2.2))] ∧ hp' = []) := by
 refine acall_of_body mixed Tryd.func50 rfl (by rfl) ?_
 intro C hro hgl hb0
 unfold F50_shard_Submit at h
 refine aw_rs ?_
 refine .n (f_box 4 (by rfl) (by rfl)) rfl (.c rfl .nil) rfl ?_
 refine .n (f_box 7 (by rfl) (by rfl)) rfl (.c rfl .nil) rfl ?_
 refine .n (f_alloc 8 (by rfl) zrv74) rfl .nil rfl ?_
 refine .as rfl (by rfl) ?_
 refine .as rfl (by rfl) ?_
 refine .nil (aq_then ?_)
 refine aw_seq ?_
 refine aw_block ?_
 refine aw_rs ?_
 refine .v (f_load (n := 0) (o := 4) (off := 0) (p := []) (c := .d (eGShard a0)) (z := .d (eGShard a0)) (by rfl) rfl ty74 (by rfl)) rfl (.c rfl .nil) (.cons rfl .nil) ?_
 obtain ⟨y1, hy2, h⟩ := bind_some h
 refine .v (f_callP hgl (by rfl) en52 rfl (by rfl) (by rfl) (by rfl) (F52_shard_Check_ok hy2)) rfl (.c rfl .nil) .nil ?_
 refine .v (f_binI (by rfl) rfl (by rfl)) rfl (.c rfl (.c rfl .nil)) .nil ?_
 refine .as rfl (by rfl) ?_
 refine .nil (aq_then ?_)
 refine aw_cond rfl (fun hc3 => ?_) (fun hc3 => ?_)
 · replace h := ite_t hc3 h
   refine aw_rs ?_
   refine .v (f_load (n := 0) (o := 8) (off := 0) (p := []) (c := .st [.d (.val (.slice none 0 0))]) (z := .st [.d (.val (.slice none 0 0))]) (by rfl) rfl ty74 (by rfl)) rfl (.c rfl .nil) (.cons rfl .nil) ?_
   refine .s (f_store (n := 0) (o := 8) (off := 0) (p := []) (c := .st [.d (.val (.slice none 0 0))]) (old := .st [.d (.val (.slice none 0 0))]) (z := .st [.d (.val (.slice none 0 0))]) (c' := .st [.d (.val (.slice none 0 0))]) rfl rfl (by rfl) ty74 (by rfl)) rfl (.c rfl (.c rfl .nil)) (.cons rfl .nil) ?_
   refine .as rfl (by rfl) ?_
   refine .as rfl (by rfl) ?_
   refine .nil (aq_then ?_)
   refine aw_ret ?_
   refine aq_block_ret ?_
   refine aq_then_ret ?_
   obtain rfl := Option.some.inj h
   refine aq_freezeH [] [(8, .ptr 8 0 []), (9, .d (eL24 ([]))), (10, .d (.val (.int .i64 (8 : Int))))] [(8, .av (.d (eGShard (⟨[]⟩ : GShard))))] .nil (.keep rfl (.cons rfl .nil (.keep rfl .nil))) (.cons rfl (by rfl) (.st (.cons .nil .nil)) .nil) ?_
   exact aq_finp hb0 rfl (.cell rfl rfl ty74 (by rfl) (.tmp rfl (by rfl) (.tmp rfl (by rfl) .nil))) (by rfl) rfl ⟨rfl, rfl⟩
 replace h := ite_f hc3 h
 refine aw_rs ?_
 refine .v (f_load (n := 0) (o := 7) (off := 0) (p := []) (c := .d (eGTx a3)) (z := .d (eGTx a3)) (by rfl) rfl ty36 (by rfl)) rfl (.c rfl .nil) (.cons rfl .nil) ?_
 obtain ⟨y4, hy5, h⟩ := bind_some h
 refine .v (f_callP hgl (by rfl) en38 rfl (by rfl) (by rfl) (by rfl) (F38_tx_Check_ok hy5)) rfl (.c rfl .nil) .nil ?_
 refine .v (f_binI (by rfl) rfl (by rfl)) rfl (.c rfl (.c rfl .nil)) .nil ?_
 refine .as rfl (by rfl) ?_
 refine .nil (aq_then ?_)
 refine aw_cond rfl (fun hc6 => ?_) (fun hc6 => ?_)
 · replace h := ite_t hc6 h
   refine aw_rs ?_
   refine .v (f_load (n := 0) (o := 8) (off := 0) (p := []) (c := .st [.d (.val (.slice none 0 0))]) (z := .st [.d (.val (.slice none 0 0))]) (by rfl) rfl ty74 (by rfl)) rfl (.c rfl .nil) (.cons rfl .nil) ?_
   refine .s (f_store (n := 0) (o := 8) (off := 0) (p := []) (c := .st [.d (.val (.slice none 0 0))]) (old := .st [.d (.val (.slice none 0 0))]) (z := .st [.d (.val (.slice none 0 0))]) (c' := .st [.d (.val (.slice none 0 0))]) rfl rfl (by rfl) ty74 (by rfl)) rfl (.c rfl (.c rfl .nil)) (.cons rfl .nil) ?_
   refine .as rfl (by rfl) ?_
   refine .as rfl (by rfl) ?_
   refine .nil (aq_then ?_)
   refine aw_ret ?_
   refine aq_block_ret ?_
   refine aq_then_ret ?_
   obtain rfl := Option.some.inj h
   refine aq_freezeH [] [(8, .ptr 8 0 []), (9, .d (eL24 ([]))), (10, .d (.val (.int .i64 (110 : Int))))] [(8, .av (.d (eGShard (⟨[]⟩ : GShard))))] .nil (.keep rfl (.cons rfl .nil (.keep rfl .nil))) (.cons rfl (by rfl) (.st (.cons .nil .nil)) .nil) ?_
   exact aq_finp hb0 rfl (.cell rfl rfl ty74 (by rfl) (.tmp rfl (by rfl) (.tmp rfl (by rfl) .nil))) (by rfl) rfl ⟨rfl, rfl⟩
 replace h := ite_f hc6 h
 refine aw_rs ?_
 refine .v (f_fieldAddr (n := 64) (by rfl) fl36_2 (by decide)) rfl (.c rfl .nil) .nil ?_
 refine .v (f_load (n := 0) (o := 7) (off := (0 + 64)) (p := [2]) (c := .d (eGTx a3)) (z := .d (.val (.int .u64 a3.Nonce))) (by rfl) rfl ty27 (by rfl)) rfl (.c rfl .nil) (.cons rfl .nil) ?_
 refine .mv rfl (by rfl) ?_
 refine .v (f_binI (by rfl) rfl (by rfl)) rfl (.c rfl (.c rfl .nil)) .nil ?_
 refine .as rfl (by rfl) ?_
 refine .nil (aq_then ?_)
 refine aw_cond rfl (fun hc7 => ?_) (fun hc7 => ?_)
 · replace h := ite_t hc7 h
   refine aw_rs ?_
   refine .v (f_load (n := 0) (o := 8) (off := 0) (p := []) (c := .st [.d (.val (.slice none 0 0))]) (z := .st [.d (.val (.slice none 0 0))]) (by rfl) rfl ty74 (by rfl)) rfl (.c rfl .nil) (.cons rfl .nil) ?_
   refine .s (f_store (n := 0) (o := 8) (off := 0) (p := []) (c := .st [.d (.val (.slice none 0 0))]) (old := .st [.d (.val (.slice none 0 0))]) (z := .st [.d (.val (.slice none 0 0))]) (c' := .st [.d (.val (.slice none 0 0))]) rfl rfl (by rfl) ty74 (by rfl)) rfl (.c rfl (.c rfl .nil)) (.cons rfl .nil) ?_
   refine .as rfl (by rfl) ?_
   refine .as rfl (by rfl) ?_
   refine .nil (aq_then ?_)
   refine aw_ret ?_
   refine aq_block_ret ?_
   refine aq_then_ret ?_
   obtain rfl := Option.some.inj h
   refine aq_freezeH [] [(8, .ptr 8 0 []), (9, .d (eL24 ([]))), (10, .d (.val (.int .i64 (200 : Int))))] [(8, .av (.d (eGShard (⟨[]⟩ : GShard))))] .nil (.keep rfl (.cons rfl .nil (.keep rfl .nil))) (.cons rfl (by rfl) (.st (.cons .nil .nil)) .nil) ?_
   exact aq_finp hb0 rfl (.cell rfl rfl ty74 (by rfl) (.tmp rfl (by rfl) (.tmp rfl (by rfl) .nil))) (by rfl) rfl ⟨rfl, rfl⟩
 replace h := ite_f hc7 h
 refine aw_seq ?_
 obtain ⟨o9, ho46, h⟩ := bind_some h
 refine aw_join (.normal) ⟨[(1, .d (.val (.int .i64 a1))), (4, .ptr 4 0 []), (7, .ptr 7 0 []), (8, .ptr 8 0 []), (33, .d (.val (.bool o9)))], [(4, .av (.d (eGShard a0))), (7, .av (.d (eGTx a3))), (8, .av (.st [.d (.val (.slice none 0 0))]))], []⟩ ?_ ?_
 · replace h := ho46
   refine aw_r ?_
   refine .v (f_fieldAddr (n := 64) (by rfl) fl36_2 (by decide)) rfl (.c rfl .nil) .nil ?_
   refine .v (f_load (n := 0) (o := 7) (off := (0 + 64)) (p := [2]) (c := .d (eGTx a3)) (z := .d (.val (.int .u64 a3.Nonce))) (by rfl) rfl ty27 (by rfl)) rfl (.c rfl .nil) (.cons rfl .nil) ?_
   refine .mv rfl (by rfl) ?_
   refine .v (f_binI (by rfl) rfl (by rfl)) rfl (.c rfl (.c rfl .nil)) .nil ?_
   refine .v (f_binI (by rfl) rfl (by rfl)) rfl (.c rfl (.c rfl .nil)) .nil ?_
   refine .mv rfl (by rfl) ?_
   rcases Bool.eq_false_or_eq_true (decide ((IntKind.u64.wrap (a3.Nonce - a2)) ≥ (16 : Int))) with hc8 | hc8
   · replace h := ite_t hc8 h
     refine .off rfl rfl rfl hc8 rfl (by rfl) ?_
     refine .off rfl rfl rfl hc8 rfl (by rfl) ?_
     refine .off rfl rfl rfl hc8 rfl (by rfl) ?_
     refine .v (f_pick_true (by rfl) hc8) rfl (.c rfl (.c rfl .nil)) .nil ?_
     refine .as rfl (by rfl) ?_
     refine .nil ?_
     obtain rfl := Option.some.inj h
     refine aq_weak (s' := ⟨[(1, .d (.val (.int .i64 a1))), (4, .ptr 4 0 []), (7, .ptr 7 0 []), (8, .ptr 8 0 []), (33, .d (.val (.bool true)))], [(4, .av (.d (eGShard a0))), (7, .av (.d (eGTx a3))), (8, .av (.st [.d (.val (.slice none 0 0))]))], []⟩) id hb0 (.keep rfl (.keep rfl (.keep rfl (.keep rfl (.keep rfl .nil))))) (.keep rfl (.keep rfl (.keep rfl .nil))) rfl (by rfl) ?_
     exact jq
   replace h := ite_f hc8 h
   refine .gv (f_fieldAddr (n := 64) (by rfl) fl36_2 (by decide)) rfl rfl rfl hc8 (.c rfl .nil) .nil ?_
   refine .gv (f_load (n := 0) (o := 7) (off := (0 + 64)) (p := [2]) (c := .d (eGTx a3)) (z := .d (.val (.int .u64 a3.Nonce))) (by rfl) rfl ty27 (by rfl)) rfl rfl rfl hc8 (.c rfl .nil) (.cons rfl .nil) ?_
   refine .gv (f_binI (by rfl) rfl (by rfl)) rfl rfl rfl hc8 (.c rfl (.c rfl .nil)) .nil ?_
   refine .v (f_pick_false (by rfl) hc8) rfl (.c rfl (.c rfl .nil)) .nil ?_
   refine .as rfl (by rfl) ?_
   refine .nil ?_
   obtain rfl := Option.some.inj h
   refine aq_weak (s' := ⟨[(1, .d (.val (.int .i64 a1))), (4, .ptr 4 0 []), (7, .ptr 7 0 []), (8, .ptr 8 0 []), (33, .d (.val (.bool (a3.Nonce == (18446744073709551615 : Int)))))], [(4, .av (.d (eGShard a0))), (7, .av (.d (eGTx a3))), (8, .av (.st [.d (.val (.slice none 0 0))]))], []⟩) id hb0 (.keep rfl (.keep rfl (.keep rfl (.keep rfl (.keep rfl .nil))))) (.keep rfl (.keep rfl (.keep rfl .nil))) rfl (by rfl) ?_
   exact jq
 refine aq_then ?_
 refine aw_cond rfl (fun hc10 => ?_) (fun hc10 => ?_)
 · replace h := ite_t hc10 h
   refine aw_rs ?_
   refine .v (f_load (n := 0) (o := 8) (off := 0) (p := []) (c := .st [.d (.val (.slice none 0 0))]) (z := .st [.d (.val (.slice none 0 0))]) (by rfl) rfl ty74 (by rfl)) rfl (.c rfl .nil) (.cons rfl .nil) ?_
   refine .s (f_store (n := 0) (o := 8) (off := 0) (p := []) (c := .st [.d (.val (.slice none 0 0))]) (old := .st [.d (.val (.slice none 0 0))]) (z := .st [.d (.val (.slice none 0 0))]) (c' := .st [.d (.val (.slice none 0 0))]) rfl rfl (by rfl) ty74 (by rfl)) rfl (.c rfl (.c rfl .nil)) (.cons rfl .nil) ?_
   refine .as rfl (by rfl) ?_
   refine .as rfl (by rfl) ?_
   refine .nil (aq_then ?_)
   refine aw_ret ?_
   refine aq_block_ret ?_
   refine aq_then_ret ?_
   obtain rfl := Option.some.inj h
   refine aq_freezeH [] [(8, .ptr 8 0 []), (9, .d (eL24 ([]))), (10, .d (.val (.int .i64 (201 : Int))))] [(8, .av (.d (eGShard (⟨[]⟩ : GShard))))] .nil (.keep rfl (.cons rfl .nil (.keep rfl .nil))) (.cons rfl (by rfl) (.st (.cons .nil .nil)) .nil) ?_
   exact aq_finp hb0 rfl (.cell rfl rfl ty74 (by rfl) (.tmp rfl (by rfl) (.tmp rfl (by rfl) .nil))) (by rfl) rfl ⟨rfl, rfl⟩
 replace h := ite_f hc10 h
 refine aw_skip ?_
 refine aq_block ?_
 refine aq_then ?_
 refine aw_rs ?_
 refine .v (f_load (n := 0) (o := 4) (off := 0) (p := []) (c := .d (eGShard a0)) (z := .d (eGShard a0)) (by rfl) rfl ty74 (by rfl)) rfl (.c rfl .nil) (.cons rfl .nil) ?_
 obtain ⟨y11, hy12, h⟩ := bind_some h
 refine .w (f_callG (xs := [.d (eGShard a0)]) (r := .st [.slc 1048 0 ((y11).length) 33]) (hw := [(1047, .av (.st [.slc 1048 0 ((y11).length) 33])), (1048, .av (.d (.arr 33 ((y11).length) ((y11).map eGLine))))]) (fun i => bif Nat.beq i 1045 then 1048 else (bif Nat.beq i 2 then 1047 else i)) [] hgl (by rfl) (cal_f en61) rfl (by rfl) (by rfl) (by rfl) (by rfl) (.cons (.same _) .nil) rfl rfl rfl rfl (F61_shard_Twin_ok hy12)) rfl (.c rfl .nil) .nil (.cons rfl (.cons rfl .nil)) ?_
 refine .v (f_build (xs := [(0, .st [.slc 1048 0 ((y11).length) 33])]) (z' := .st [.st [.slc 1048 0 ((y11).length) 33]]) (by rfl) zrv132 ag132 rfl (by rfl) ⟨_, _, _, rfl, pl132_0, rfl, rfl, trivial⟩ (by rfl) (by rfl)) rfl (.c rfl .nil) .nil ?_
 refine .n (f_box 48 (by rfl) (by rfl)) rfl (.c rfl .nil) rfl ?_
 refine .as rfl (by rfl) ?_
 refine .nil (aq_then ?_)
 refine aw_rds ?_
 refine .v (f_move (by rfl)) rfl (.c rfl .nil) .nil ?_
 refine .v (f_load (n := 0) (o := 7) (off := 0) (p := []) (c := .d (eGTx a3)) (z := .d (eGTx a3)) (by rfl) rfl ty36 (by rfl)) rfl (.c rfl .nil) (.cons rfl .nil) ?_
 obtain ⟨y13, hy14, h⟩ := bind_some h
 refine .v (f_callP hgl (by rfl) en39 rfl (by rfl) (by rfl) (by rfl) (F39_tx_From_ok hy14)) rfl (.c rfl .nil) .nil ?_
 obtain ⟨y15, hy16, h⟩ := bind_some h
 refine .w (f_callG (xs := [.ptr 48 0 [], .d (eA22 y13)]) (r := .d (eGLine y15)) (hw := [(1049, .av (.d (eGLine y15))), (48, .av (.st [.st [.slc 1048 0 ((y11).length) 33]])), (1048, .av (.d (.arr 33 ((y11).length) ((y11).map eGLine))))]) (fun i => bif Nat.beq i 4 then 1049 else (bif Nat.beq i 1 then 1048 else (bif Nat.beq i 0 then 48 else i))) [] hgl (by rfl) (cal_f en93) rfl (by rfl) (by rfl) (by rfl) (by rfl) (.cons (.same _) (.cons (.same _) .nil)) rfl rfl rfl rfl (F93_shard_part_line_ec6_ok hy16)) rfl (.c rfl (.c rfl .nil)) (.cons rfl (.cons rfl .nil)) (.cons rfl .nil) ?_
 refine .v (f_load (n := 0) (o := 7) (off := 0) (p := []) (c := .d (eGTx a3)) (z := .d (eGTx a3)) (by rfl) rfl ty36 (by rfl)) rfl (.c rfl .nil) (.cons rfl .nil) ?_
 obtain ⟨y17, hy18, h⟩ := bind_some h
 refine .v (f_callP hgl (by rfl) en34 rfl (by rfl) (by rfl) (by rfl) (F34_queue_Put_ok hy18)) rfl (.c rfl (.c rfl .nil)) .nil ?_
 refine .v (f_move (by rfl)) rfl (.c rfl .nil) .nil ?_
 refine .v (f_extract (by rfl) rfl) rfl (.c rfl .nil) .nil ?_
 refine .v (f_extract (by rfl) rfl) rfl (.c rfl .nil) .nil ?_
 refine .v (f_extract (by rfl) rfl) rfl (.c rfl .nil) .nil ?_
 refine .n (f_alloc 12 (by rfl) zrv26) rfl .nil rfl ?_
 refine .s (f_store (n := 0) (o := 12) (off := 0) (p := []) (c := .st [.d (eA22 (List.replicate 32 (0 : Int))), .d (.val (.slice none 0 0))]) (old := .st [.d (eA22 (List.replicate 32 (0 : Int))), .d (.val (.slice none 0 0))]) (z := .d (eGLine y17.1)) (c' := .d (eGLine y17.1)) rfl rfl (by rfl) ty26 (by rfl)) rfl (.c rfl (.c rfl .nil)) (.cons rfl .nil) ?_
 refine .v (f_assign (by rfl)) rfl (.c rfl .nil) .nil ?_
 refine .v (f_assign (by rfl)) rfl (.c rfl .nil) .nil ?_
 refine .nil (by kernel_rfl) ?_
 refine aw_seq ?_
 refine aw_seq ?_
 obtain ⟨o20, ho45, h⟩ := bind_some h
 refine aw_join (.normal) ⟨[(1, .d (.val (.int .i64 a1))), (4, .ptr 4 0 []), (7, .ptr 7 0 []), (8, .ptr 8 0 []), (10, .d (.val (.int .i64 y17.2.2))), (11, .ptr 48 0 []), (12, .ptr 12 0 []), (13, .d (eL24 y17.2.1)), (64, .d (.val (.bool o20)))], [(4, .av (.d (eGShard a0))), (7, .av (.d (eGTx a3))), (8, .av (.st [.d (.val (.slice none 0 0))])), (48, .av (.st [.st [.slc 1048 0 ((y11).length) 33]])), (12, .av (.d (eGLine y17.1))), (1048, .av (.d (.arr 33 ((y11).length) ((y11).map eGLine))))], []⟩ ?_ ?_
 · replace h := ho45
   refine aw_r ?_
   refine .mv rfl (by rfl) ?_
   refine .v (f_binI (by rfl) rfl (by rfl)) rfl (.c rfl (.c rfl .nil)) .nil ?_
   refine .mv rfl (by rfl) ?_
   rcases Bool.eq_false_or_eq_true (y17.2.2 != (0 : Int)) with hc19 | hc19
   · replace h := ite_t hc19 h
     refine .gv (f_move (by rfl)) rfl rfl rfl hc19 (.c rfl .nil) .nil ?_
     refine .gv (f_binI (by rfl) rfl (by rfl)) rfl rfl rfl hc19 (.c rfl (.c rfl .nil)) .nil ?_
     refine .v (f_pick_true (by rfl) hc19) rfl (.c rfl (.c rfl .nil)) .nil ?_
     refine .nil ?_
     obtain rfl := Option.some.inj h
     refine aq_weak (s' := ⟨[(1, .d (.val (.int .i64 a1))), (4, .ptr 4 0 []), (7, .ptr 7 0 []), (8, .ptr 8 0 []), (10, .d (.val (.int .i64 y17.2.2))), (11, .ptr 48 0 []), (12, .ptr 12 0 []), (13, .d (eL24 y17.2.1)), (64, .d (.val (.bool (y17.2.2 != (9 : Int)))))], [(4, .av (.d (eGShard a0))), (7, .av (.d (eGTx a3))), (8, .av (.st [.d (.val (.slice none 0 0))])), (48, .av (.st [.st [.slc 1048 0 ((y11).length) 33]])), (12, .av (.d (eGLine y17.1))), (1048, .av (.d (.arr 33 ((y11).length) ((y11).map eGLine))))], []⟩) id hb0 (.keep rfl (.keep rfl (.keep rfl (.keep rfl (.keep rfl (.keep rfl (.keep rfl (.keep rfl (.keep rfl .nil))))))))) (.keep rfl (.keep rfl (.keep rfl (.keep rfl (.keep rfl (.keep rfl .nil)))))) rfl (by rfl) ?_
     exact jq
   replace h := ite_f hc19 h
   refine .off rfl rfl rfl hc19 rfl (by rfl) ?_
   refine .off rfl rfl rfl hc19 rfl (by rfl) ?_
   refine .v (f_pick_false (by rfl) hc19) rfl (.c rfl (.c rfl .nil)) .nil ?_
   refine .nil ?_
   obtain rfl := Option.some.inj h
   refine aq_weak (s' := ⟨[(1, .d (.val (.int .i64 a1))), (4, .ptr 4 0 []), (7, .ptr 7 0 []), (8, .ptr 8 0 []), (10, .d (.val (.int .i64 y17.2.2))), (11, .ptr 48 0 []), (12, .ptr 12 0 []), (13, .d (eL24 y17.2.1)), (64, .d (.val (.bool false)))], [(4, .av (.d (eGShard a0))), (7, .av (.d (eGTx a3))), (8, .av (.st [.d (.val (.slice none 0 0))])), (48, .av (.st [.st [.slc 1048 0 ((y11).length) 33]])), (12, .av (.d (eGLine y17.1))), (1048, .av (.d (.arr 33 ((y11).length) ((y11).map eGLine))))], []⟩) id hb0 (.keep rfl (.keep rfl (.keep rfl (.keep rfl (.keep rfl (.keep rfl (.keep rfl (.keep rfl (.keep rfl .nil))))))))) (.keep rfl (.keep rfl (.keep rfl (.keep rfl (.keep rfl (.keep rfl .nil)))))) rfl (by rfl) ?_
   exact jq
 refine aq_then ?_
 refine aw_cond rfl (fun hc21 => ?_) (fun hc21 => ?_)
 · replace h := ite_t hc21 h
   refine aw_rs ?_
   refine .v (f_load (n := 0) (o := 8) (off := 0) (p := []) (c := .st [.d (.val (.slice none 0 0))]) (z := .st [.d (.val (.slice none 0 0))]) (by rfl) rfl ty74 (by rfl)) rfl (.c rfl .nil) (.cons rfl .nil) ?_
   refine .mv rfl (by rfl) ?_
   refine .s (f_store (n := 0) (o := 8) (off := 0) (p := []) (c := .st [.d (.val (.slice none 0 0))]) (old := .st [.d (.val (.slice none 0 0))]) (z := .st [.d (.val (.slice none 0 0))]) (c' := .st [.d (.val (.slice none 0 0))]) rfl rfl (by rfl) ty74 (by rfl)) rfl (.c rfl (.c rfl .nil)) (.cons rfl .nil) ?_
   refine .as rfl (by rfl) ?_
   refine .as rfl (by rfl) ?_
   refine .nil (aq_then ?_)
   refine aw_ret ?_
   refine aq_then_ret ?_
   obtain rfl := Option.some.inj h
   refine aq_freezeH [] [(8, .ptr 8 0 []), (10, .d (.val (.int .i64 y17.2.2))), (9, .d (eL24 ([])))] [(8, .av (.d (eGShard (⟨[]⟩ : GShard))))] .nil (.keep rfl (.keep rfl (.cons rfl .nil .nil))) (.cons rfl (by rfl) (.st (.cons .nil .nil)) .nil) ?_
   exact aq_finp hb0 rfl (.cell rfl rfl ty74 (by rfl) (.tmp rfl (by rfl) (.tmp rfl (by rfl) .nil))) (by rfl) rfl ⟨rfl, rfl⟩
 replace h := ite_f hc21 h
 refine aw_skip ?_
 refine aq_then ?_
 refine aw_seq ?_
 refine aw_rs ?_
 refine .mv rfl (by rfl) ?_
 refine .v (f_binI (by rfl) rfl (by rfl)) rfl (.c rfl (.c rfl .nil)) .nil ?_
 refine .nil (aq_then ?_)
 refine aw_cond rfl (fun hc22 => ?_) (fun hc22 => ?_)
 · replace h := ite_t hc22 h
   refine aw_rs ?_
   refine .v (f_load (n := 0) (o := 8) (off := 0) (p := []) (c := .st [.d (.val (.slice none 0 0))]) (z := .st [.d (.val (.slice none 0 0))]) (by rfl) rfl ty74 (by rfl)) rfl (.c rfl .nil) (.cons rfl .nil) ?_
   refine .s (f_store (n := 0) (o := 8) (off := 0) (p := []) (c := .st [.d (.val (.slice none 0 0))]) (old := .st [.d (.val (.slice none 0 0))]) (z := .st [.d (.val (.slice none 0 0))]) (c' := .st [.d (.val (.slice none 0 0))]) rfl rfl (by rfl) ty74 (by rfl)) rfl (.c rfl (.c rfl .nil)) (.cons rfl .nil) ?_
   refine .as rfl (by rfl) ?_
   refine .as rfl (by rfl) ?_
   refine .nil (aq_then ?_)
   refine aw_ret ?_
   refine aq_then_ret ?_
   obtain rfl := Option.some.inj h
   refine aq_freezeH [] [(8, .ptr 8 0 []), (10, .d (.val (.int .i64 (9 : Int)))), (9, .d (eL24 ([])))] [(8, .av (.d (eGShard (⟨[]⟩ : GShard))))] .nil (.keep rfl (.keep rfl (.cons rfl .nil .nil))) (.cons rfl (by rfl) (.st (.cons .nil .nil)) .nil) ?_
   exact aq_finp hb0 rfl (.cell rfl rfl ty74 (by rfl) (.tmp rfl (by rfl) (.tmp rfl (by rfl) .nil))) (by rfl) rfl ⟨rfl, rfl⟩
 replace h := ite_f hc22 h
 refine aw_skip ?_
 refine aq_then ?_
 refine aw_seq ?_
 refine aw_seq ?_
 obtain ⟨o26, ho44, h⟩ := bind_some h
 refine aw_join (.normal) ⟨[(7, .ptr 7 0 []), (8, .ptr 8 0 []), (11, .ptr 48 0 []), (12, .ptr 12 0 []), (13, .d (eL24 y17.2.1)), (78, .d (.val (.bool o26)))], [(7, .av (.d (eGTx a3))), (8, .av (.st [.d (.val (.slice none 0 0))])), (48, .av (.st [.st [.slc 1048 0 ((y11).length) 33]])), (12, .av (.d (eGLine y17.1))), (1048, .av (.d (.arr 33 ((y11).length) ((y11).map eGLine))))], []⟩ ?_ ?_
 · replace h := ho44
   refine aw_r ?_
   refine .mv rfl (by rfl) ?_
   refine .v (f_lenD (n := (y17.2.1).length) (by rfl) sl24 rfl (by simp)) rfl (.c rfl .nil) .nil ?_
   refine .v (f_binI (by rfl) rfl (by rfl)) rfl (.c rfl (.c rfl .nil)) .nil ?_
   refine .mv rfl (by rfl) ?_
   rcases Bool.eq_false_or_eq_true (((y17.2.1).length : Int) == (0 : Int)) with hc23 | hc23
   · replace h := ite_t hc23 h
     refine .gv (f_load (n := 0) (o := 4) (off := 0) (p := []) (c := .d (eGShard a0)) (z := .d (eGShard a0)) (by rfl) rfl ty74 (by rfl)) rfl rfl rfl hc23 (.c rfl .nil) (.cons rfl .nil) ?_
     obtain ⟨y24, hy25, h⟩ := bind_some h
     refine .gv (f_callP hgl (by rfl) en53 rfl (by rfl) (by rfl) (by rfl) (F53_shard_Count_ok hy25)) rfl rfl rfl hc23 (.c rfl .nil) .nil ?_
     refine .gv (f_move (by rfl)) rfl rfl rfl hc23 (.c rfl .nil) .nil ?_
     refine .gv (f_binI (by rfl) rfl (by rfl)) rfl rfl rfl hc23 (.c rfl (.c rfl .nil)) .nil ?_
     refine .v (f_pick_true (by rfl) hc23) rfl (.c rfl (.c rfl .nil)) .nil ?_
     refine .nil ?_
     obtain rfl := Option.some.inj h
     refine aq_weak (s' := ⟨[(7, .ptr 7 0 []), (8, .ptr 8 0 []), (11, .ptr 48 0 []), (12, .ptr 12 0 []), (13, .d (eL24 y17.2.1)), (78, .d (.val (.bool (decide (y24 ≥ a1)))))], [(7, .av (.d (eGTx a3))), (8, .av (.st [.d (.val (.slice none 0 0))])), (48, .av (.st [.st [.slc 1048 0 ((y11).length) 33]])), (12, .av (.d (eGLine y17.1))), (1048, .av (.d (.arr 33 ((y11).length) ((y11).map eGLine))))], []⟩) id hb0 (.keep rfl (.keep rfl (.keep rfl (.keep rfl (.keep rfl (.keep rfl .nil)))))) (.keep rfl (.keep rfl (.keep rfl (.keep rfl (.keep rfl .nil))))) rfl (by rfl) ?_
     exact jq
   replace h := ite_f hc23 h
   refine .off rfl rfl rfl hc23 rfl (by rfl) ?_
   refine .off rfl rfl rfl hc23 rfl (by rfl) ?_
   refine .off rfl rfl rfl hc23 rfl (by rfl) ?_
   refine .off rfl rfl rfl hc23 rfl (by rfl) ?_
   refine .v (f_pick_false (by rfl) hc23) rfl (.c rfl (.c rfl .nil)) .nil ?_
   refine .nil ?_
   obtain rfl := Option.some.inj h
   refine aq_weak (s' := ⟨[(7, .ptr 7 0 []), (8, .ptr 8 0 []), (11, .ptr 48 0 []), (12, .ptr 12 0 []), (13, .d (eL24 y17.2.1)), (78, .d (.val (.bool false)))], [(7, .av (.d (eGTx a3))), (8, .av (.st [.d (.val (.slice none 0 0))])), (48, .av (.st [.st [.slc 1048 0 ((y11).length) 33]])), (12, .av (.d (eGLine y17.1))), (1048, .av (.d (.arr 33 ((y11).length) ((y11).map eGLine))))], []⟩) id hb0 (.keep rfl (.keep rfl (.keep rfl (.keep rfl (.keep rfl (.keep rfl .nil)))))) (.keep rfl (.keep rfl (.keep rfl (.keep rfl (.keep rfl .nil))))) rfl (by rfl) ?_
   exact jq
 refine aq_then ?_
 refine aw_cond rfl (fun hc27 => ?_) (fun hc27 => ?_)
 · replace h := ite_t hc27 h
   refine aw_rs ?_
   refine .mv rfl (by rfl) ?_
   refine .v (f_load (n := 0) (o := 7) (off := 0) (p := []) (c := .d (eGTx a3)) (z := .d (eGTx a3)) (by rfl) rfl ty36 (by rfl)) rfl (.c rfl .nil) (.cons rfl .nil) ?_
   obtain ⟨y28, hy29, h⟩ := bind_some h
   refine .w (f_callG0 (xs := [.ptr 48 0 [], .d (eGTx a3)]) (r := .d (.val (.int .i64 y28))) (fun i => bif Nat.beq i 1 then 1048 else (bif Nat.beq i 0 then 48 else i)) [] hgl (by rfl) (cal_f en94) rfl (by rfl) (by rfl) (by rfl) (by rfl) (.cons (.same _) (.cons (.same _) .nil)) rfl rfl (F94_shard_part_worst_647_ok hy29)) rfl (.c rfl (.c rfl .nil)) (.cons rfl (.cons rfl .nil)) .nil ?_
   refine .as rfl (by rfl) ?_
   refine .nil (aq_then ?_)
   refine aw_seq ?_
   refine aw_rs ?_
   refine .mv rfl (by rfl) ?_
   refine .v (f_binI (by rfl) rfl (by rfl)) rfl (.c rfl (.c rfl .nil)) .nil ?_
   refine .nil (aq_then ?_)
   refine aw_cond rfl (fun hc30 => ?_) (fun hc30 => ?_)
   · replace h := ite_t hc30 h
     refine aw_rs ?_
     refine .v (f_load (n := 0) (o := 8) (off := 0) (p := []) (c := .st [.d (.val (.slice none 0 0))]) (z := .st [.d (.val (.slice none 0 0))]) (by rfl) rfl ty74 (by rfl)) rfl (.c rfl .nil) (.cons rfl .nil) ?_
     refine .s (f_store (n := 0) (o := 8) (off := 0) (p := []) (c := .st [.d (.val (.slice none 0 0))]) (old := .st [.d (.val (.slice none 0 0))]) (z := .st [.d (.val (.slice none 0 0))]) (c' := .st [.d (.val (.slice none 0 0))]) rfl rfl (by rfl) ty74 (by rfl)) rfl (.c rfl (.c rfl .nil)) (.cons rfl .nil) ?_
     refine .as rfl (by rfl) ?_
     refine .as rfl (by rfl) ?_
     refine .nil (aq_then ?_)
     refine aw_ret ?_
     refine aq_then_ret ?_
     refine aq_then_ret ?_
     obtain rfl := Option.some.inj h
     refine aq_freezeH [] [(8, .ptr 8 0 []), (9, .d (eL24 ([]))), (10, .d (.val (.int .i64 (9 : Int))))] [(8, .av (.d (eGShard (⟨[]⟩ : GShard))))] .nil (.keep rfl (.cons rfl .nil (.keep rfl .nil))) (.cons rfl (by rfl) (.st (.cons .nil .nil)) .nil) ?_
     exact aq_finp hb0 rfl (.cell rfl rfl ty74 (by rfl) (.tmp rfl (by rfl) (.tmp rfl (by rfl) .nil))) (by rfl) rfl ⟨rfl, rfl⟩
   replace h := ite_f hc30 h
   refine aw_skip ?_
   refine aq_then ?_
   refine aw_rs ?_
   refine .mv rfl (by rfl) ?_
   refine .v (f_nilCheck (by rfl)) rfl (.c rfl .nil) .nil ?_
   refine .v (f_fieldAddr (n := 0) (by rfl) fl132_0 (by decide)) rfl (.c rfl .nil) .nil ?_
   refine .v (f_fieldAddr (n := 0) (by rfl) fl74_0 (by decide)) rfl (.c rfl .nil) .nil ?_
   refine .v (f_load (n := 0) (o := 48) (off := ((0 + 0) + 0)) (p := [0, 0]) (c := .st [.st [.slc 1048 0 ((y11).length) 33]]) (z := .slc 1048 0 ((y11).length) 33) (by rfl) rfl ty72 (by rfl)) rfl (.c rfl .nil) (.cons rfl .nil) ?_
   refine .mv rfl (by rfl) ?_
   obtain ⟨x31, hx32, h⟩ := bind_some h
   obtain ⟨hx33, hx32⟩ := rd_some hx32
   refine .v (f_indexSW (by rfl) sl72 hx33 (rd_map _ hx32)) rfl (.c rfl (.c rfl .nil)) (.cons rfl .nil) ?_
   refine .v (f_load (n := 0) (o := 1048) (off := ((0 + (y28).toNat) * 33)) (p := [0 + (y28).toNat]) (c := .d (.arr 33 ((y11).length) ((y11).map eGLine))) (z := .d (eGLine x31)) (by rfl) (at_map _ (by simpa using hx32) rfl) ty26 (by rfl)) rfl (.c rfl .nil) (.cons rfl .nil) ?_
   refine .n (f_alloc 15 (by rfl) zrv26) rfl .nil rfl ?_
   refine .s (f_store (n := 0) (o := 15) (off := 0) (p := []) (c := .st [.d (eA22 (List.replicate 32 (0 : Int))), .d (.val (.slice none 0 0))]) (old := .st [.d (eA22 (List.replicate 32 (0 : Int))), .d (.val (.slice none 0 0))]) (z := .d (eGLine x31)) (c' := .d (eGLine x31)) rfl rfl (by rfl) ty26 (by rfl)) rfl (.c rfl (.c rfl .nil)) (.cons rfl .nil) ?_
   refine .nil (aq_then ?_)
   refine aw_rs ?_
   refine .v (f_fieldAddr (n := 32) (by rfl) fl26_1 (by decide)) rfl (.c rfl .nil) .nil ?_
   refine .v (f_load (n := 0) (o := 15) (off := (0 + 32)) (p := [1]) (c := .d (eGLine x31)) (z := .d (eL24 x31.Txs)) (by rfl) rfl ty24 (by rfl)) rfl (.c rfl .nil) (.cons rfl .nil) ?_
   refine .v (f_lenD (n := (x31.Txs).length) (by rfl) sl24 rfl (by simp)) rfl (.c rfl .nil) .nil ?_
   refine .v (f_binI (by rfl) rfl (by rfl)) rfl (.c rfl (.c rfl .nil)) .nil ?_
   refine .as rfl (by rfl) ?_
   refine .nil (aq_then ?_)
   refine aw_rds ?_
   refine .v (f_fieldAddr (n := 32) (by rfl) fl26_1 (by decide)) rfl (.c rfl .nil) .nil ?_
   refine .v (f_load (n := 0) (o := 15) (off := (0 + 32)) (p := [1]) (c := .d (eGLine x31)) (z := .d (eL24 x31.Txs)) (by rfl) rfl ty24 (by rfl)) rfl (.c rfl .nil) (.cons rfl .nil) ?_
   refine .v (f_move (by rfl)) rfl (.c rfl .nil) .nil ?_
   obtain ⟨x34, hx35, h⟩ := bind_some h
   obtain ⟨hx36, hx35⟩ := rd_some hx35
   refine .v (f_indexS (by rfl) sl24 hx36 (rd_map _ hx35)) rfl (.c rfl (.c rfl .nil)) .nil ?_
   refine .v (f_loadR (z := (eGTx x34)) (by rfl) ty36) rfl (.c rfl .nil) .nil ?_
   refine .n (f_buildS (xs := [(0, .d (eGTx x34))]) (z := (.st [(eA22 (List.replicate 32 (0 : Int))), (eA22 (List.replicate 32 (0 : Int))), (.val (.int .u64 (0 : Int))), (.val (.int .u64 (0 : Int))), (.val (.int .u64 (0 : Int))), (eA22 (List.replicate 32 (0 : Int)))])) (zs := (([x34] : List GTx)).map eGTx) 1056 (by rfl) el24 zel24 (by rfl) (by decide) (by decide) rfl (by rfl) ⟨_, _, _, rfl, pl24_0, rfl, rfl, trivial⟩ (by rfl)) rfl (.c rfl .nil) rfl ?_
   refine .v (f_fieldAddr (n := 32) (by rfl) fl26_1 (by decide)) rfl (.c rfl .nil) .nil ?_
   refine .v (f_load (n := 0) (o := 15) (off := (0 + 32)) (p := [1]) (c := .d (eGLine x31)) (z := .d (eL24 x31.Txs)) (by rfl) rfl ty24 (by rfl)) rfl (.c rfl .nil) (.cons rfl .nil) ?_
   refine .v (f_move (by rfl)) rfl (.c rfl .nil) .nil ?_
   refine .v (f_move (by rfl)) rfl (.c rfl .nil) .nil ?_
   obtain ⟨hb37, h⟩ := ifp h
   refine .v (f_sliceDM (k1 := .i64) (k2 := .i64) (k3 := .i64) (i := (0 : Int)) (j := (IntKind.i64.wrap (((x31.Txs).length : Int) - (1 : Int)))) (xs := (x31.Txs).map eGTx) (zs := ((x31.Txs).take ((IntKind.i64.wrap (((x31.Txs).length : Int) - (1 : Int)))).toNat).map eGTx) (by rfl) sl24 (by intro hx; first | rfl | cases hx) hb37.1 hb37.2.1 (by rw [List.length_map]; exact hb37.2.2) (by simp [List.map_take, List.map_drop])) rfl (.c rfl (.c rfl (.c rfl .nil))) .nil ?_
   refine .v (f_assign (by rfl)) rfl (.c rfl .nil) .nil ?_
   refine .v (f_fieldAddr (n := 32) (by rfl) fl26_1 (by decide)) rfl (.c rfl .nil) .nil ?_
   refine .s (f_store (n := 0) (o := 15) (off := (0 + 32)) (p := [1]) (c := .d (eGLine x31)) (old := .d (eL24 x31.Txs)) (z := .d (eL24 ((x31.Txs).take ((IntKind.i64.wrap (((x31.Txs).length : Int) - (1 : Int)))).toNat))) (c' := .d (eGLine ({ x31 with Txs := ((x31.Txs).take ((IntKind.i64.wrap (((x31.Txs).length : Int) - (1 : Int)))).toNat) }))) rfl rfl (by rfl) ty24 (by rfl)) rfl (.c rfl (.c rfl .nil)) (.cons rfl .nil) ?_
   refine .nil (by kernel_rfl) ?_
   refine aw_r ?_
   refine .mv rfl (by rfl) ?_
   refine .v (f_load (n := 0) (o := 15) (off := 0) (p := []) (c := .d (eGLine ({ x31 with Txs := ((x31.Txs).take ((IntKind.i64.wrap (((x31.Txs).length : Int) - (1 : Int)))).toNat) }))) (z := .d (eGLine ({ x31 with Txs := ((x31.Txs).take ((IntKind.i64.wrap (((x31.Txs).length : Int) - (1 : Int)))).toNat) }))) (by rfl) rfl ty26 (by rfl)) rfl (.c rfl .nil) (.cons rfl .nil) ?_
   obtain ⟨y38, hy39, h⟩ := bind_some h
   refine .w (f_callG (xs := [.ptr 48 0 [], .d (eGLine ({ x31 with Txs := ((x31.Txs).take ((IntKind.i64.wrap (((x31.Txs).length : Int) - (1 : Int)))).toNat) }))]) (r := .res []) (hw := [(48, .av (.st [.st [.slc 1062 0 ((y38).length) 33]])), (1048, .dead), (1062, .av (.d (.arr 33 ((y38).length) ((y38).map eGLine))))]) (fun i => bif Nat.beq i 1057 then 1062 else (bif Nat.beq i 1 then 1048 else (bif Nat.beq i 0 then 48 else i))) [] hgl (by rfl) (cal_f en95) rfl (by rfl) (by rfl) (by rfl) (by rfl) (.cons (.same _) (.cons (.same _) .nil)) rfl rfl rfl rfl (F95_shard_part_set_ddb_ok hy39)) rfl (.c rfl (.c rfl .nil)) (.cons rfl (.cons rfl .nil)) (.cons rfl .nil) ?_
   refine .nil ?_
   refine aq_then ?_
   refine aw_rs ?_
   refine .mv rfl (by rfl) ?_
   refine .v (f_load (n := 0) (o := 12) (off := 0) (p := []) (c := .d (eGLine y17.1)) (z := .d (eGLine y17.1)) (by rfl) rfl ty26 (by rfl)) rfl (.c rfl .nil) (.cons rfl .nil) ?_
   obtain ⟨y40, hy41, h⟩ := bind_some h
   refine .w (f_callG (xs := [.ptr 48 0 [], .d (eGLine y17.1)]) (r := .res []) (hw := [(48, .av (.st [.st [.slc 1063 0 ((y40).length) 33]])), (1062, .dead), (1063, .av (.d (.arr 33 ((y40).length) ((y40).map eGLine))))]) (fun i => bif Nat.beq i 1057 then 1063 else (bif Nat.beq i 1 then 1062 else (bif Nat.beq i 0 then 48 else i))) [] hgl (by rfl) (cal_f en95) rfl (by rfl) (by rfl) (by rfl) (by rfl) (.cons (.same _) (.cons (.same _) .nil)) rfl rfl rfl rfl (F95_shard_part_set_ddb_ok hy41)) rfl (.c rfl (.c rfl .nil)) (.cons rfl (.cons rfl .nil)) (.cons rfl .nil) ?_
   refine .nil (aq_then ?_)
   refine aw_rs ?_
   refine .mv rfl (by rfl) ?_
   refine .v (f_nilCheck (by rfl)) rfl (.c rfl .nil) .nil ?_
   refine .v (f_fieldAddr (n := 0) (by rfl) fl132_0 (by decide)) rfl (.c rfl .nil) .nil ?_
   refine .v (f_load (n := 0) (o := 48) (off := (0 + 0)) (p := [0]) (c := .st [.st [.slc 1063 0 ((y40).length) 33]]) (z := .st [.slc 1063 0 ((y40).length) 33]) (by rfl) rfl ty74 (by rfl)) rfl (.c rfl .nil) (.cons rfl .nil) ?_
   refine .mv rfl (by rfl) ?_
   refine .s (f_store (n := 0) (o := 8) (off := 0) (p := []) (c := .st [.d (.val (.slice none 0 0))]) (old := .st [.d (.val (.slice none 0 0))]) (z := .st [.slc 1063 0 ((y40).length) 33]) (c' := .st [.slc 1063 0 ((y40).length) 33]) rfl rfl (by rfl) ty74 (by rfl)) rfl (.c rfl (.c rfl .nil)) (.cons rfl .nil) ?_
   refine .as rfl (by rfl) ?_
   refine .as rfl (by rfl) ?_
   refine .nil (aq_then ?_)
   refine aw_ret ?_
   obtain rfl := Option.some.inj h
   refine aq_freezeH [(1056, (.arr 99 ((([x34] : List GTx)).length) ((([x34] : List GTx)).map eGTx))), (1063, (.arr 33 ((y40).length) ((y40).map eGLine)))] [(8, .ptr 8 0 []), (9, .d (eL24 ([x34] : List GTx))), (10, .d (.val (.int .i64 (0 : Int))))] [(8, .av (.d (eGShard (⟨y40⟩ : GShard)))), (48, .av (.d (eGshard_part (⟨(⟨y40⟩ : GShard)⟩ : Gshard_part))))] (.cons rfl (.cons rfl .nil)) (.keep rfl (.cons rfl (.whole (.head _)) (.keep rfl .nil))) (.cons rfl (by rfl) (.st (.cons (.whole (.tail _ (.head _))) .nil)) (.cons rfl (by rfl) (.st (.cons (.st (.cons (.whole (.tail _ (.head _))) .nil)) .nil)) .nil)) ?_
   exact aq_finp hb0 rfl (.cell rfl rfl ty74 (by rfl) (.tmp rfl (by rfl) (.tmp rfl (by rfl) .nil))) (by rfl) rfl ⟨rfl, rfl⟩
 replace h := ite_f hc27 h
 refine aw_skip ?_
 refine aq_then ?_
 refine aw_rs ?_
 refine .mv rfl (by rfl) ?_
 refine .v (f_load (n := 0) (o := 12) (off := 0) (p := []) (c := .d (eGLine y17.1)) (z := .d (eGLine y17.1)) (by rfl) rfl ty26 (by rfl)) rfl (.c rfl .nil) (.cons rfl .nil) ?_
 obtain ⟨y42, hy43, h⟩ := bind_some h
 refine .w (f_callG (xs := [.ptr 48 0 [], .d (eGLine y17.1)]) (r := .res []) (hw := [(48, .av (.st [.st [.slc 1064 0 ((y42).length) 33]])), (1048, .dead), (1064, .av (.d (.arr 33 ((y42).length) ((y42).map eGLine))))]) (fun i => bif Nat.beq i 1057 then 1064 else (bif Nat.beq i 1 then 1048 else (bif Nat.beq i 0 then 48 else i))) [] hgl (by rfl) (cal_f en95) rfl (by rfl) (by rfl) (by rfl) (by rfl) (.cons (.same _) (.cons (.same _) .nil)) rfl rfl rfl rfl (F95_shard_part_set_ddb_ok hy43)) rfl (.c rfl (.c rfl .nil)) (.cons rfl (.cons rfl .nil)) (.cons rfl .nil) ?_
 refine .nil (aq_then ?_)
 refine aw_rs ?_
 refine .mv rfl (by rfl) ?_
 refine .v (f_nilCheck (by rfl)) rfl (.c rfl .nil) .nil ?_
 refine .v (f_fieldAddr (n := 0) (by rfl) fl132_0 (by decide)) rfl (.c rfl .nil) .nil ?_
 refine .v (f_load (n := 0) (o := 48) (off := (0 + 0)) (p := [0]) (c := .st [.st [.slc 1064 0 ((y42).length) 33]]) (z := .st [.slc 1064 0 ((y42).length) 33]) (by rfl) rfl ty74 (by rfl)) rfl (.c rfl .nil) (.cons rfl .nil) ?_
 refine .mv rfl (by rfl) ?_
 refine .s (f_store (n := 0) (o := 8) (off := 0) (p := []) (c := .st [.d (.val (.slice none 0 0))]) (old := .st [.d (.val (.slice none 0 0))]) (z := .st [.slc 1064 0 ((y42).length) 33]) (c' := .st [.slc 1064 0 ((y42).length) 33]) rfl rfl (by rfl) ty74 (by rfl)) rfl (.c rfl (.c rfl .nil)) (.cons rfl .nil) ?_
 refine .as rfl (by rfl) ?_
 refine .as rfl (by rfl) ?_
 refine .nil (aq_then ?_)
 refine aw_ret ?_
 obtain rfl := Option.some.inj h
 refine aq_freezeH [(1064, (.arr 33 ((y42).length) ((y42).map eGLine)))] [(8, .ptr 8 0 []), (9, .d (eL24 y17.2.1)), (10, .d (.val (.int .i64 (0 : Int))))] [(8, .av (.d (eGShard (⟨y42⟩ : GShard)))), (48, .av (.d (eGshard_part (⟨(⟨y42⟩ : GShard)⟩ : Gshard_part))))] (.cons rfl .nil) (.keep rfl (.keep rfl (.keep rfl .nil))) (.cons rfl (by rfl) (.st (.cons (.whole (.head _)) .nil)) (.cons rfl (by rfl) (.st (.cons (.st (.cons (.whole (.head _)) .nil)) .nil)) .nil)) ?_
 exact aq_finp hb0 rfl (.cell rfl rfl ty74 (by rfl) (.tmp rfl (by rfl) (.tmp rfl (by rfl) .nil))) (by rfl) rfl ⟨rfl, rfl⟩

/- 70: beadroll/beadrolllaw20.two -/
def F70_beadrolllaw20_two (n : Nat)  : Option (GShard) :=
  ((F71_beadrolllaw20_one n (1 : Int) (0 : Int) (5 : Int)).bind fun (y1 : GTx) => ((F50_shard_Submit n (⟨[]⟩ : GShard) (2 : Int) (0 : Int) y1).bind fun (y3 : GShard × (List GTx) × Int) => ((F71_beadrolllaw20_one n (1 : Int) (1 : Int) (5 : Int)).bind fun (y5 : GTx) => ((F50_shard_Submit n y3.1 (2 : Int) (0 : Int) y5).bind fun (y7 : GShard × (List GTx) × Int) => some y7.1))))
theorem F70_beadrolllaw20_two_ok {n : Nat}  {r : GShard} (h : F70_beadrolllaw20_two n  = some r) :
    ACall Tryd.prog GS 70 [] [] (fun r' hp' => r' = .d (eGShard r) ∧ hp' = []) := by
 refine acall_of_body mixed Tryd.func70 rfl (by rfl) ?_
 intro C hro hgl hb0
 unfold F70_beadrolllaw20_two at h
 refine aw_rs ?_
 refine .n (f_alloc 0 (by rfl) zrv74) rfl .nil rfl ?_
 refine .nil (aq_then ?_)
 refine aw_rs ?_
 refine .v (f_build (xs := []) (z' := .st [.d (.val (.slice none 0 0))]) (by rfl) zrv74 ag74 rfl (by rfl) trivial (by rfl) (by rfl)) rfl .nil .nil ?_
 obtain ⟨y1, hy2, h⟩ := bind_some h
 refine .v (f_callP hgl (by rfl) en71 rfl (by rfl) (by rfl) (by rfl) (F71_beadrolllaw20_one_ok hy2)) rfl (.c rfl (.c rfl (.c rfl .nil))) .nil ?_
 obtain ⟨y3, hy4, h⟩ := bind_some h
 refine .w (f_callG0 (xs := [.st [.d (.val (.slice none 0 0))], .d (.val (.int .i64 (2 : Int))), .d (.val (.int .u64 (0 : Int))), .d (eGTx y1)]) (r := .res [.d (eGShard y3.1), .d (eL24 y3.2.1), .d (.val (.int .i64 y3.2.2))]) (fun i => i) [] hgl (by rfl) (cal_f en50) rfl (by rfl) (by rfl) (by rfl) (by rfl) (.cons (.st (.cons .nil .nil)) (.cons (.same _) (.cons (.same _) (.cons (.same _) .nil)))) rfl rfl (F50_shard_Submit_ok hy4)) rfl (.c rfl (.c rfl (.c rfl (.c rfl .nil)))) .nil .nil ?_
 refine .mv rfl (by rfl) ?_
 refine .v (f_extract (by rfl) rfl) rfl (.c rfl .nil) .nil ?_
 refine .v (f_extract (by rfl) rfl) rfl (.c rfl .nil) .nil ?_
 refine .v (f_extract (by rfl) rfl) rfl (.c rfl .nil) .nil ?_
 refine .n (f_alloc 1 (by rfl) zrv74) rfl .nil rfl ?_
 refine .s (f_store (n := 0) (o := 1) (off := 0) (p := []) (c := .st [.d (.val (.slice none 0 0))]) (old := .st [.d (.val (.slice none 0 0))]) (z := .d (eGShard y3.1)) (c' := .d (eGShard y3.1)) rfl rfl (by rfl) ty74 (by rfl)) rfl (.c rfl (.c rfl .nil)) (.cons rfl .nil) ?_
 refine .as rfl (by rfl) ?_
 refine .as rfl (by rfl) ?_
 refine .nil (aq_then ?_)
 refine aw_rds ?_
 refine .v (f_load (n := 0) (o := 1) (off := 0) (p := []) (c := .d (eGShard y3.1)) (z := .d (eGShard y3.1)) (by rfl) rfl ty74 (by rfl)) rfl (.c rfl .nil) (.cons rfl .nil) ?_
 obtain ⟨y5, hy6, h⟩ := bind_some h
 refine .v (f_callP hgl (by rfl) en71 rfl (by rfl) (by rfl) (by rfl) (F71_beadrolllaw20_one_ok hy6)) rfl (.c rfl (.c rfl (.c rfl .nil))) .nil ?_
 obtain ⟨y7, hy8, h⟩ := bind_some h
 refine .v (f_callP hgl (by rfl) en50 rfl (by rfl) (by rfl) (by rfl) (F50_shard_Submit_ok hy8)) rfl (.c rfl (.c rfl (.c rfl (.c rfl .nil)))) .nil ?_
 refine .v (f_move (by rfl)) rfl (.c rfl .nil) .nil ?_
 refine .v (f_extract (by rfl) rfl) rfl (.c rfl .nil) .nil ?_
 refine .v (f_extract (by rfl) rfl) rfl (.c rfl .nil) .nil ?_
 refine .v (f_extract (by rfl) rfl) rfl (.c rfl .nil) .nil ?_
 refine .s (f_store (n := 0) (o := 1) (off := 0) (p := []) (c := .d (eGShard y3.1)) (old := .d (eGShard y3.1)) (z := .d (eGShard y7.1)) (c' := .d (eGShard y7.1)) rfl rfl (by rfl) ty74 (by rfl)) rfl (.c rfl (.c rfl .nil)) (.cons rfl .nil) ?_
 refine .nil (by kernel_rfl) ?_
 refine aw_rs ?_
 refine .v (f_load (n := 0) (o := 1) (off := 0) (p := []) (c := .d (eGShard y7.1)) (z := .d (eGShard y7.1)) (by rfl) rfl ty74 (by rfl)) rfl (.c rfl .nil) (.cons rfl .nil) ?_
 refine .s (f_store (n := 0) (o := 0) (off := 0) (p := []) (c := .st [.d (.val (.slice none 0 0))]) (old := .st [.d (.val (.slice none 0 0))]) (z := .d (eGShard y7.1)) (c' := .d (eGShard y7.1)) rfl rfl (by rfl) ty74 (by rfl)) rfl (.c rfl (.c rfl .nil)) (.cons rfl .nil) ?_
 refine .nil (aq_then ?_)
 refine aw_ret ?_
 obtain rfl := Option.some.inj h
 exact aq_finp hb0 rfl (.cell rfl rfl ty74 (by rfl) .nil) (by rfl) rfl ⟨rfl, rfl⟩

/- 48: beadroll/beadrolllaw20.alive -/
def F48_beadrolllaw20_alive (n : Nat)  : Option (Bool) :=
  ((F70_beadrolllaw20_two n ).bind fun (y1 : GShard) => ((F71_beadrolllaw20_one n (2 : Int) (0 : Int) (5 : Int)).bind fun (y3 : GTx) => ((F50_shard_Submit n y1 (2 : Int) (0 : Int) y3).bind fun (y5 : GShard × (List GTx) × Int) => ((F70_beadrolllaw20_two n ).bind fun (y7 : GShard) => ((F71_beadrolllaw20_one n (2 : Int) (0 : Int) (6 : Int)).bind fun (y9 : GTx) => ((F50_shard_Submit n y7 (2 : Int) (0 : Int) y9).bind fun (y11 : GShard × (List GTx) × Int) => ((((F70_beadrolllaw20_two n ).bind fun (y13 : GShard) => ((F53_shard_Count n y13).bind fun (y15 : Int) => (if (y15 == (2 : Int)) = true then (if (y5.2.2 == (9 : Int)) = true then (if (y11.2.2 == (0 : Int)) = true then ((F53_shard_Count n y11.1).bind fun (y20 : Int) => (if (y20 == (2 : Int)) = true then ((F71_beadrolllaw20_one n (1 : Int) (1 : Int) (5 : Int)).bind fun (y23 : GTx) => ((F20_beadrollref19_SameTxs n y11.2.1 ([y23] : List GTx)).bind fun (y25 : Bool) => some y25)) else some false)) else some false) else some false) else some false)))).bind fun (o27 : Bool) => some o27)))))))
theorem F48_beadrolllaw20_alive_ok {n : Nat}  {r : Bool} (h : F48_beadrolllaw20_alive n  = some r) :
    ACall Tryd.prog GS 48 [] [] (fun r' hp' => r' = .d (.val (.bool r)) ∧ hp' = []) := by
 refine acall_of_body mixed Tryd.func48 rfl (by rfl) ?_
 intro C hro hgl hb0
 unfold F48_beadrolllaw20_alive at h
 refine aw_rs ?_
 refine .as rfl (by rfl) ?_
 refine .nil (aq_then ?_)
 refine aw_rs ?_
 obtain ⟨y1, hy2, h⟩ := bind_some h
 refine .v (f_callP hgl (by rfl) en70 rfl (by rfl) (by rfl) (by rfl) (F70_beadrolllaw20_two_ok hy2)) rfl .nil .nil ?_
 obtain ⟨y3, hy4, h⟩ := bind_some h
 refine .v (f_callP hgl (by rfl) en71 rfl (by rfl) (by rfl) (by rfl) (F71_beadrolllaw20_one_ok hy4)) rfl (.c rfl (.c rfl (.c rfl .nil))) .nil ?_
 obtain ⟨y5, hy6, h⟩ := bind_some h
 refine .v (f_callP hgl (by rfl) en50 rfl (by rfl) (by rfl) (by rfl) (F50_shard_Submit_ok hy6)) rfl (.c rfl (.c rfl (.c rfl (.c rfl .nil)))) .nil ?_
 refine .mv rfl (by rfl) ?_
 refine .v (f_extract (by rfl) rfl) rfl (.c rfl .nil) .nil ?_
 refine .v (f_extract (by rfl) rfl) rfl (.c rfl .nil) .nil ?_
 refine .v (f_extract (by rfl) rfl) rfl (.c rfl .nil) .nil ?_
 refine .n (f_alloc 1 (by rfl) zrv74) rfl .nil rfl ?_
 refine .s (f_store (n := 0) (o := 1) (off := 0) (p := []) (c := .st [.d (.val (.slice none 0 0))]) (old := .st [.d (.val (.slice none 0 0))]) (z := .d (eGShard y5.1)) (c' := .d (eGShard y5.1)) rfl rfl (by rfl) ty74 (by rfl)) rfl (.c rfl (.c rfl .nil)) (.cons rfl .nil) ?_
 refine .as rfl (by rfl) ?_
 refine .as rfl (by rfl) ?_
 refine .nil (aq_then ?_)
 refine aw_rs ?_
 obtain ⟨y7, hy8, h⟩ := bind_some h
 refine .v (f_callP hgl (by rfl) en70 rfl (by rfl) (by rfl) (by rfl) (F70_beadrolllaw20_two_ok hy8)) rfl .nil .nil ?_
 obtain ⟨y9, hy10, h⟩ := bind_some h
 refine .v (f_callP hgl (by rfl) en71 rfl (by rfl) (by rfl) (by rfl) (F71_beadrolllaw20_one_ok hy10)) rfl (.c rfl (.c rfl (.c rfl .nil))) .nil ?_
 obtain ⟨y11, hy12, h⟩ := bind_some h
 refine .v (f_callP hgl (by rfl) en50 rfl (by rfl) (by rfl) (by rfl) (F50_shard_Submit_ok hy12)) rfl (.c rfl (.c rfl (.c rfl (.c rfl .nil)))) .nil ?_
 refine .mv rfl (by rfl) ?_
 refine .v (f_extract (by rfl) rfl) rfl (.c rfl .nil) .nil ?_
 refine .v (f_extract (by rfl) rfl) rfl (.c rfl .nil) .nil ?_
 refine .v (f_extract (by rfl) rfl) rfl (.c rfl .nil) .nil ?_
 refine .n (f_alloc 4 (by rfl) zrv74) rfl .nil rfl ?_
 refine .s (f_store (n := 0) (o := 4) (off := 0) (p := []) (c := .st [.d (.val (.slice none 0 0))]) (old := .st [.d (.val (.slice none 0 0))]) (z := .d (eGShard y11.1)) (c' := .d (eGShard y11.1)) rfl rfl (by rfl) ty74 (by rfl)) rfl (.c rfl (.c rfl .nil)) (.cons rfl .nil) ?_
 refine .as rfl (by rfl) ?_
 refine .as rfl (by rfl) ?_
 refine .nil (aq_then ?_)
 refine aw_seq ?_
 obtain ⟨o27, ho28, h⟩ := bind_some h
 refine aw_join (.normal) ⟨[(0, .d (.val (.bool o27)))], [], []⟩ ?_ ?_
 · replace h := ho28
   refine aw_r ?_
   obtain ⟨y13, hy14, h⟩ := bind_some h
   refine .v (f_callP hgl (by rfl) en70 rfl (by rfl) (by rfl) (by rfl) (F70_beadrolllaw20_two_ok hy14)) rfl .nil .nil ?_
   obtain ⟨y15, hy16, h⟩ := bind_some h
   refine .v (f_callP hgl (by rfl) en53 rfl (by rfl) (by rfl) (by rfl) (F53_shard_Count_ok hy16)) rfl (.c rfl .nil) .nil ?_
   refine .v (f_binI (by rfl) rfl (by rfl)) rfl (.c rfl (.c rfl .nil)) .nil ?_
   refine .mv rfl (by rfl) ?_
   rcases Bool.eq_false_or_eq_true (y15 == (2 : Int)) with hc17 | hc17
   · replace h := ite_t hc17 h
     refine .gv (f_move (by rfl)) rfl rfl rfl hc17 (.c rfl .nil) .nil ?_
     refine .gv (f_binI (by rfl) rfl (by rfl)) rfl rfl rfl hc17 (.c rfl (.c rfl .nil)) .nil ?_
     refine .v (f_pick_true (by rfl) hc17) rfl (.c rfl (.c rfl .nil)) .nil ?_
     refine .mv rfl (by rfl) ?_
     rcases Bool.eq_false_or_eq_true (y5.2.2 == (9 : Int)) with hc18 | hc18
     · replace h := ite_t hc18 h
       refine .gv (f_move (by rfl)) rfl rfl rfl hc18 (.c rfl .nil) .nil ?_
       refine .gv (f_binI (by rfl) rfl (by rfl)) rfl rfl rfl hc18 (.c rfl (.c rfl .nil)) .nil ?_
       refine .v (f_pick_true (by rfl) hc18) rfl (.c rfl (.c rfl .nil)) .nil ?_
       refine .mv rfl (by rfl) ?_
       rcases Bool.eq_false_or_eq_true (y11.2.2 == (0 : Int)) with hc19 | hc19
       · replace h := ite_t hc19 h
         refine .gv (f_load (n := 0) (o := 4) (off := 0) (p := []) (c := .d (eGShard y11.1)) (z := .d (eGShard y11.1)) (by rfl) rfl ty74 (by rfl)) rfl rfl rfl hc19 (.c rfl .nil) (.cons rfl .nil) ?_
         obtain ⟨y20, hy21, h⟩ := bind_some h
         refine .gv (f_callP hgl (by rfl) en53 rfl (by rfl) (by rfl) (by rfl) (F53_shard_Count_ok hy21)) rfl rfl rfl hc19 (.c rfl .nil) .nil ?_
         refine .gv (f_binI (by rfl) rfl (by rfl)) rfl rfl rfl hc19 (.c rfl (.c rfl .nil)) .nil ?_
         refine .v (f_pick_true (by rfl) hc19) rfl (.c rfl (.c rfl .nil)) .nil ?_
         refine .mv rfl (by rfl) ?_
         rcases Bool.eq_false_or_eq_true (y20 == (2 : Int)) with hc22 | hc22
         · replace h := ite_t hc22 h
           refine .gv (f_move (by rfl)) rfl rfl rfl hc22 (.c rfl .nil) .nil ?_
           obtain ⟨y23, hy24, h⟩ := bind_some h
           refine .gv (f_callP hgl (by rfl) en71 rfl (by rfl) (by rfl) (by rfl) (F71_beadrolllaw20_one_ok hy24)) rfl rfl rfl hc22 (.c rfl (.c rfl (.c rfl .nil))) .nil ?_
           refine .gw (f_buildS (xs := [(0, .d (eGTx y23))]) (z := (.st [(eA22 (List.replicate 32 (0 : Int))), (eA22 (List.replicate 32 (0 : Int))), (.val (.int .u64 (0 : Int))), (.val (.int .u64 (0 : Int))), (.val (.int .u64 (0 : Int))), (eA22 (List.replicate 32 (0 : Int)))])) (zs := (([y23] : List GTx)).map eGTx) 1065 (by rfl) el24 zel24 (by rfl) (by decide) (by decide) rfl (by rfl) ⟨_, _, _, rfl, pl24_0, rfl, rfl, trivial⟩ (by rfl)) rfl rfl rfl hc22 (.c rfl .nil) .nil (.cons rfl .nil) ?_
           obtain ⟨y25, hy26, h⟩ := bind_some h
           refine .gw (f_callH0 (xs := [.d (eL24 y11.2.1), .slc 1065 0 ((([y23] : List GTx)).length) 99]) (r := .d (.val (.bool y25))) (hr := []) (fun i => i) [(1065, (.arr 99 ((([y23] : List GTx)).length) ((([y23] : List GTx)).map eGTx)))] hgl (by rfl) (cal_f en20) rfl (by rfl) (by rfl) (by rfl) (by rfl) (by rfl) (.cons (.same _) (.cons (.whole (.head _)) .nil)) rfl rfl (flat_val) trivial (F20_beadrollref19_SameTxs_ok hy26)) rfl rfl rfl hc22 (.c rfl (.c rfl .nil)) (.cons rfl .nil) .nil ?_
           refine .v (f_pick_true (by rfl) hc22) rfl (.c rfl (.c rfl .nil)) .nil ?_
           refine .as rfl (by rfl) ?_
           refine .nil ?_
           obtain rfl := Option.some.inj h
           refine aq_weak (s' := ⟨[(0, .d (.val (.bool y25)))], [], []⟩) id hb0 (.keep rfl .nil) .nil rfl (by rfl) ?_
           exact jq
         replace h := ite_f hc22 h
         refine .off rfl rfl rfl hc22 rfl (by rfl) ?_
         refine .off rfl rfl rfl hc22 rfl (by rfl) ?_
         refine .off rfl rfl rfl hc22 rfl (by rfl) ?_
         refine .off rfl rfl rfl hc22 rfl (by rfl) ?_
         refine .v (f_pick_false (by rfl) hc22) rfl (.c rfl (.c rfl .nil)) .nil ?_
         refine .as rfl (by rfl) ?_
         refine .nil ?_
         obtain rfl := Option.some.inj h
         refine aq_weak (s' := ⟨[(0, .d (.val (.bool false)))], [], []⟩) id hb0 (.keep rfl .nil) .nil rfl (by rfl) ?_
         exact jq
       replace h := ite_f hc19 h
       refine .off rfl rfl rfl hc19 rfl (by rfl) ?_
       refine .off rfl rfl rfl hc19 rfl (by rfl) ?_
       refine .off rfl rfl rfl hc19 rfl (by rfl) ?_
       refine .v (f_pick_false (by rfl) hc19) rfl (.c rfl (.c rfl .nil)) .nil ?_
       refine .mv rfl (by rfl) ?_
       refine .off rfl rfl rfl rfl rfl (by rfl) ?_
       refine .off rfl rfl rfl rfl rfl (by rfl) ?_
       refine .off rfl rfl rfl rfl rfl (by rfl) ?_
       refine .off rfl rfl rfl rfl rfl (by rfl) ?_
       refine .v (f_pick_false (by rfl) rfl) rfl (.c rfl (.c rfl .nil)) .nil ?_
       refine .as rfl (by rfl) ?_
       refine .nil ?_
       obtain rfl := Option.some.inj h
       refine aq_weak (s' := ⟨[(0, .d (.val (.bool false)))], [], []⟩) id hb0 (.keep rfl .nil) .nil rfl (by rfl) ?_
       exact jq
     replace h := ite_f hc18 h
     refine .off rfl rfl rfl hc18 rfl (by rfl) ?_
     refine .off rfl rfl rfl hc18 rfl (by rfl) ?_
     refine .v (f_pick_false (by rfl) hc18) rfl (.c rfl (.c rfl .nil)) .nil ?_
     refine .mv rfl (by rfl) ?_
     refine .off rfl rfl rfl rfl rfl (by rfl) ?_
     refine .off rfl rfl rfl rfl rfl (by rfl) ?_
     refine .off rfl rfl rfl rfl rfl (by rfl) ?_
     refine .v (f_pick_false (by rfl) rfl) rfl (.c rfl (.c rfl .nil)) .nil ?_
     refine .mv rfl (by rfl) ?_
     refine .off rfl rfl rfl rfl rfl (by rfl) ?_
     refine .off rfl rfl rfl rfl rfl (by rfl) ?_
     refine .off rfl rfl rfl rfl rfl (by rfl) ?_
     refine .off rfl rfl rfl rfl rfl (by rfl) ?_
     refine .v (f_pick_false (by rfl) rfl) rfl (.c rfl (.c rfl .nil)) .nil ?_
     refine .as rfl (by rfl) ?_
     refine .nil ?_
     obtain rfl := Option.some.inj h
     refine aq_weak (s' := ⟨[(0, .d (.val (.bool false)))], [], []⟩) id hb0 (.keep rfl .nil) .nil rfl (by rfl) ?_
     exact jq
   replace h := ite_f hc17 h
   refine .off rfl rfl rfl hc17 rfl (by rfl) ?_
   refine .off rfl rfl rfl hc17 rfl (by rfl) ?_
   refine .v (f_pick_false (by rfl) hc17) rfl (.c rfl (.c rfl .nil)) .nil ?_
   refine .mv rfl (by rfl) ?_
   refine .off rfl rfl rfl rfl rfl (by rfl) ?_
   refine .off rfl rfl rfl rfl rfl (by rfl) ?_
   refine .v (f_pick_false (by rfl) rfl) rfl (.c rfl (.c rfl .nil)) .nil ?_
   refine .mv rfl (by rfl) ?_
   refine .off rfl rfl rfl rfl rfl (by rfl) ?_
   refine .off rfl rfl rfl rfl rfl (by rfl) ?_
   refine .off rfl rfl rfl rfl rfl (by rfl) ?_
   refine .v (f_pick_false (by rfl) rfl) rfl (.c rfl (.c rfl .nil)) .nil ?_
   refine .mv rfl (by rfl) ?_
   refine .off rfl rfl rfl rfl rfl (by rfl) ?_
   refine .off rfl rfl rfl rfl rfl (by rfl) ?_
   refine .off rfl rfl rfl rfl rfl (by rfl) ?_
   refine .off rfl rfl rfl rfl rfl (by rfl) ?_
   refine .v (f_pick_false (by rfl) rfl) rfl (.c rfl (.c rfl .nil)) .nil ?_
   refine .as rfl (by rfl) ?_
   refine .nil ?_
   obtain rfl := Option.some.inj h
   refine aq_weak (s' := ⟨[(0, .d (.val (.bool false)))], [], []⟩) id hb0 (.keep rfl .nil) .nil rfl (by rfl) ?_
   exact jq
 refine aq_then ?_
 refine aw_ret ?_
 obtain rfl := Option.some.inj h
 exact aq_finp hb0 rfl (.tmp rfl (by rfl) .nil) (by rfl) rfl ⟨rfl, rfl⟩

/- 8: beadroll/beadrolllaw20.ShardKeeps -/
def F8_beadrolllaw20_ShardKeeps_s1 (n : Nat) (a0 : GShard) (y8 : GShard × (List GTx) × Int) (z0_0 : Int) (z1_0 : Int) : Option ((Int) ⊕ ((Unit) ⊕ (Unit))) :=
  ((rd a0.Lines z0_0).bind fun (x32 : GLine) => (if (decide (z1_0 < ((x32.Txs).length : Int))) = true then ((rd a0.Lines z0_0).bind fun (x36 : GLine) => ((rd x36.Txs z1_0).bind fun (x39 : GTx) => ((rd a0.Lines z0_0).bind fun (x42 : GLine) => ((F51_beadrolllaw20_find n y8.1 x42.From x39.Nonce).bind fun (y45 : GTx × Bool) => (((if y45.2 = true then (if (!(decide (y45.1 = x39))) = true then (if (((y8.2.1).length : Int) == (1 : Int)) = true then ((rd y8.2.1 (0 : Int)).bind fun (x50 : GTx) => some (!(decide (x50 = x39)))) else some (!false)) else some false) else (if (((y8.2.1).length : Int) == (1 : Int)) = true then ((rd y8.2.1 (0 : Int)).bind fun (x54 : GTx) => some (!(decide (x54 = x39)))) else some (!false)))).bind fun (o57 : Bool) => (if o57 = true then some (.inr (.inr ())) else some (.inl (IntKind.i64.wrap (z1_0 + (1 : Int)))))))))) else some (.inr (.inl ()))))
def F8_beadrolllaw20_ShardKeeps_s0 (n : Nat) (a0 : GShard) (y8 : GShard × (List GTx) × Int) (z0_0 : Int) : Option ((Int) ⊕ ((Unit) ⊕ (Unit))) :=
  (if (decide (z0_0 < ((a0.Lines).length : Int))) = true then ((loopF (fun (z : Int) => F8_beadrolllaw20_ShardKeeps_s1 n a0 y8 z0_0 z) n (0 : Int)).bind (Sum.elim (fun (j60 : Unit) => some (.inl (IntKind.i64.wrap (z0_0 + (1 : Int))))) (fun (j60 : Unit) => some (.inr (.inr ()))))) else some (.inr (.inl ())))
def F8_beadrolllaw20_ShardKeeps (n : Nat) (a0 : GShard) (a1 : Int) (a2 : Int) (a3 : GTx) : Option (Bool) :=
  ((F48_beadrolllaw20_alive n ).bind fun (y1 : Bool) => ((((F49_beadrollref20_Great n a0).bind fun (y3 : Bool) => (if y3 = true then some true else some (!y1)))).bind fun (o6 : Bool) => (if o6 = true then some y1 else ((F50_shard_Submit n a0 a1 a2 a3).bind fun (y8 : GShard × (List GTx) × Int) => (if (y8.2.2 != (0 : Int)) = true then (((if y1 = true then (if (((y8.1.Lines).length : Int) == (0 : Int)) = true then some (((y8.2.1).length : Int) == (0 : Int)) else some false) else some false)).bind fun (o13 : Bool) => some o13) else ((F39_tx_From n a3).bind fun (y15 : (List Int)) => ((F51_beadrolllaw20_find n y8.1 y15 a3.Nonce).bind fun (y17 : GTx × Bool) => (((if (!y17.2) = true then some true else (if (!(decide (y17.1 = a3))) = true then some true else (if (decide (((y8.2.1).length : Int) > (1 : Int))) = true then some true else ((F52_shard_Check n y8.1).bind fun (y22 : Int) => (if (y22 != (0 : Int)) = true then some true else ((F53_shard_Count n y8.1).bind fun (y25 : Int) => ((F53_shard_Count n a0).bind fun (y27 : Int) => some (y25 != (IntKind.i64.wrap ((IntKind.i64.wrap (y27 + (1 : Int))) - ((y8.2.1).length : Int)))))))))))).bind fun (o29 : Bool) => (if o29 = true then some false else ((loopF (fun (z : Int) => F8_beadrolllaw20_ShardKeeps_s0 n a0 y8 z) n (0 : Int)).bind (Sum.elim (fun (j62 : Unit) => (((if y1 = true then ((F53_shard_Count n y8.1).bind fun (y65 : Int) => (if (decide (y65 ≤ a1)) = true then some true else ((F53_shard_Count n a0).bind fun (y68 : Int) => ((F53_shard_Count n y8.1).bind fun (y70 : Int) => some (decide (y68 ≥ y70)))))) else some false)).bind fun (o72 : Bool) => some o72)) (fun (j62 : Unit) => some false))))))))))))
theorem F8_beadrolllaw20_ShardKeeps_ok {n : Nat} {a0 : GShard} {a1 : Int} {a2 : Int} {a3 : GTx} {r : Bool} (h : F8_beadrolllaw20_ShardKeeps n a0 a1 a2 a3 = some r) :
    ACall Tryd.prog GS 8 [.d (eGShard a0), .d (.val (.int .i64 a1)), .d (.val (.int .u64 a2)), .d (eGTx a3)] [] (fun r' hp' => r' = .d (.val (.bool r)) ∧ hp' = []) := by
 refine acall_of_body mixed Tryd.func8 rfl (by rfl) ?_
 intro C hro hgl hb0
 unfold F8_beadrolllaw20_ShardKeeps at h
 refine aw_rs ?_
 refine .n (f_box 4 (by rfl) (by rfl)) rfl (.c rfl .nil) rfl ?_
 refine .n (f_box 7 (by rfl) (by rfl)) rfl (.c rfl .nil) rfl ?_
 refine .as rfl (by rfl) ?_
 refine .nil (aq_then ?_)
 refine aw_rs ?_
 obtain ⟨y1, hy2, h⟩ := bind_some h
 refine .v (f_callP hgl (by rfl) en48 rfl (by rfl) (by rfl) (by rfl) (F48_beadrolllaw20_alive_ok hy2)) rfl .nil .nil ?_
 refine .as rfl (by rfl) ?_
 refine .nil (aq_then ?_)
 refine aw_seq ?_
 refine aw_seq ?_
 obtain ⟨o6, ho75, h⟩ := bind_some h
 refine aw_join (.normal) ⟨[(1, .d (.val (.int .i64 a1))), (2, .d (.val (.int .u64 a2))), (4, .ptr 4 0 []), (7, .ptr 7 0 []), (9, .d (.val (.bool y1))), (26, .d (.val (.bool o6)))], [(4, .av (.d (eGShard a0))), (7, .av (.d (eGTx a3)))], []⟩ ?_ ?_
 · replace h := ho75
   refine aw_r ?_
   refine .v (f_load (n := 0) (o := 4) (off := 0) (p := []) (c := .d (eGShard a0)) (z := .d (eGShard a0)) (by rfl) rfl ty74 (by rfl)) rfl (.c rfl .nil) (.cons rfl .nil) ?_
   obtain ⟨y3, hy4, h⟩ := bind_some h
   refine .v (f_callP hgl (by rfl) en49 rfl (by rfl) (by rfl) (by rfl) (F49_beadrollref20_Great_ok hy4)) rfl (.c rfl .nil) .nil ?_
   refine .mv rfl (by rfl) ?_
   rcases Bool.eq_false_or_eq_true y3 with hc5 | hc5
   · replace h := ite_t hc5 h
     refine .off rfl rfl rfl hc5 rfl (by rfl) ?_
     refine .off rfl rfl rfl hc5 rfl (by rfl) ?_
     refine .v (f_pick_true (by rfl) hc5) rfl (.c rfl (.c rfl .nil)) .nil ?_
     refine .nil ?_
     obtain rfl := Option.some.inj h
     refine aq_weak (s' := ⟨[(1, .d (.val (.int .i64 a1))), (2, .d (.val (.int .u64 a2))), (4, .ptr 4 0 []), (7, .ptr 7 0 []), (9, .d (.val (.bool y1))), (26, .d (.val (.bool true)))], [(4, .av (.d (eGShard a0))), (7, .av (.d (eGTx a3)))], []⟩) id hb0 (.keep rfl (.keep rfl (.keep rfl (.keep rfl (.keep rfl (.keep rfl .nil)))))) (.keep rfl (.keep rfl .nil)) rfl (by rfl) ?_
     exact jq
   replace h := ite_f hc5 h
   refine .gv (f_move (by rfl)) rfl rfl rfl hc5 (.c rfl .nil) .nil ?_
   refine .gv (f_not (by rfl)) rfl rfl rfl hc5 (.c rfl .nil) .nil ?_
   refine .v (f_pick_false (by rfl) hc5) rfl (.c rfl (.c rfl .nil)) .nil ?_
   refine .nil ?_
   obtain rfl := Option.some.inj h
   refine aq_weak (s' := ⟨[(1, .d (.val (.int .i64 a1))), (2, .d (.val (.int .u64 a2))), (4, .ptr 4 0 []), (7, .ptr 7 0 []), (9, .d (.val (.bool y1))), (26, .d (.val (.bool (!y1))))], [(4, .av (.d (eGShard a0))), (7, .av (.d (eGTx a3)))], []⟩) id hb0 (.keep rfl (.keep rfl (.keep rfl (.keep rfl (.keep rfl (.keep rfl .nil)))))) (.keep rfl (.keep rfl .nil)) rfl (by rfl) ?_
   exact jq
 refine aq_then ?_
 refine aw_cond rfl (fun hc7 => ?_) (fun hc7 => ?_)
 · replace h := ite_t hc7 h
   refine aw_rs ?_
   refine .mv rfl (by rfl) ?_
   refine .as rfl (by rfl) ?_
   refine .nil (aq_then ?_)
   refine aw_ret ?_
   refine aq_then_ret ?_
   obtain rfl := Option.some.inj h
   exact aq_finp hb0 rfl (.tmp rfl (by rfl) .nil) (by rfl) rfl ⟨rfl, rfl⟩
 replace h := ite_f hc7 h
 refine aw_skip ?_
 refine aq_then ?_
 refine aw_rs ?_
 refine .v (f_load (n := 0) (o := 4) (off := 0) (p := []) (c := .d (eGShard a0)) (z := .d (eGShard a0)) (by rfl) rfl ty74 (by rfl)) rfl (.c rfl .nil) (.cons rfl .nil) ?_
 refine .mv rfl (by rfl) ?_
 refine .mv rfl (by rfl) ?_
 refine .v (f_load (n := 0) (o := 7) (off := 0) (p := []) (c := .d (eGTx a3)) (z := .d (eGTx a3)) (by rfl) rfl ty36 (by rfl)) rfl (.c rfl .nil) (.cons rfl .nil) ?_
 obtain ⟨y8, hy9, h⟩ := bind_some h
 refine .v (f_callP hgl (by rfl) en50 rfl (by rfl) (by rfl) (by rfl) (F50_shard_Submit_ok hy9)) rfl (.c rfl (.c rfl (.c rfl (.c rfl .nil)))) .nil ?_
 refine .mv rfl (by rfl) ?_
 refine .v (f_extract (by rfl) rfl) rfl (.c rfl .nil) .nil ?_
 refine .v (f_extract (by rfl) rfl) rfl (.c rfl .nil) .nil ?_
 refine .v (f_extract (by rfl) rfl) rfl (.c rfl .nil) .nil ?_
 refine .n (f_alloc 10 (by rfl) zrv74) rfl .nil rfl ?_
 refine .s (f_store (n := 0) (o := 10) (off := 0) (p := []) (c := .st [.d (.val (.slice none 0 0))]) (old := .st [.d (.val (.slice none 0 0))]) (z := .d (eGShard y8.1)) (c' := .d (eGShard y8.1)) rfl rfl (by rfl) ty74 (by rfl)) rfl (.c rfl (.c rfl .nil)) (.cons rfl .nil) ?_
 refine .as rfl (by rfl) ?_
 refine .as rfl (by rfl) ?_
 refine .nil (aq_then ?_)
 refine aw_seq ?_
 refine aw_rs ?_
 refine .mv rfl (by rfl) ?_
 refine .v (f_binI (by rfl) rfl (by rfl)) rfl (.c rfl (.c rfl .nil)) .nil ?_
 refine .nil (aq_then ?_)
 refine aw_cond rfl (fun hc10 => ?_) (fun hc10 => ?_)
 · replace h := ite_t hc10 h
   refine aw_seq ?_
   obtain ⟨o13, ho14, h⟩ := bind_some h
   refine aw_join (.normal) ⟨[(8, .d (.val (.bool o13)))], [], []⟩ ?_ ?_
   · replace h := ho14
     refine aw_r ?_
     refine .mv rfl (by rfl) ?_
     refine .mv rfl (by rfl) ?_
     rcases Bool.eq_false_or_eq_true y1 with hc11 | hc11
     · replace h := ite_t hc11 h
       refine .gv (f_fieldAddr (n := 0) (by rfl) fl74_0 (by decide)) rfl rfl rfl hc11 (.c rfl .nil) .nil ?_
       refine .gv (f_load (n := 0) (o := 10) (off := (0 + 0)) (p := [0]) (c := .d (eGShard y8.1)) (z := .d (eL72 y8.1.Lines)) (by rfl) rfl ty72 (by rfl)) rfl rfl rfl hc11 (.c rfl .nil) (.cons rfl .nil) ?_
       refine .gv (f_lenD (n := (y8.1.Lines).length) (by rfl) sl72 rfl (by simp)) rfl rfl rfl hc11 (.c rfl .nil) .nil ?_
       refine .gv (f_binI (by rfl) rfl (by rfl)) rfl rfl rfl hc11 (.c rfl (.c rfl .nil)) .nil ?_
       refine .v (f_pick_true (by rfl) hc11) rfl (.c rfl (.c rfl .nil)) .nil ?_
       refine .mv rfl (by rfl) ?_
       rcases Bool.eq_false_or_eq_true (((y8.1.Lines).length : Int) == (0 : Int)) with hc12 | hc12
       · replace h := ite_t hc12 h
         refine .gv (f_move (by rfl)) rfl rfl rfl hc12 (.c rfl .nil) .nil ?_
         refine .gv (f_lenD (n := (y8.2.1).length) (by rfl) sl24 rfl (by simp)) rfl rfl rfl hc12 (.c rfl .nil) .nil ?_
         refine .gv (f_binI (by rfl) rfl (by rfl)) rfl rfl rfl hc12 (.c rfl (.c rfl .nil)) .nil ?_
         refine .v (f_pick_true (by rfl) hc12) rfl (.c rfl (.c rfl .nil)) .nil ?_
         refine .as rfl (by rfl) ?_
         refine .nil ?_
         obtain rfl := Option.some.inj h
         refine aq_weak (s' := ⟨[(8, .d (.val (.bool (((y8.2.1).length : Int) == (0 : Int)))))], [], []⟩) id hb0 (.keep rfl .nil) .nil rfl (by rfl) ?_
         exact jq
       replace h := ite_f hc12 h
       refine .off rfl rfl rfl hc12 rfl (by rfl) ?_
       refine .off rfl rfl rfl hc12 rfl (by rfl) ?_
       refine .off rfl rfl rfl hc12 rfl (by rfl) ?_
       refine .v (f_pick_false (by rfl) hc12) rfl (.c rfl (.c rfl .nil)) .nil ?_
       refine .as rfl (by rfl) ?_
       refine .nil ?_
       obtain rfl := Option.some.inj h
       refine aq_weak (s' := ⟨[(8, .d (.val (.bool false)))], [], []⟩) id hb0 (.keep rfl .nil) .nil rfl (by rfl) ?_
       exact jq
     replace h := ite_f hc11 h
     refine .off rfl rfl rfl hc11 rfl (by rfl) ?_
     refine .off rfl rfl rfl hc11 rfl (by rfl) ?_
     refine .off rfl rfl rfl hc11 rfl (by rfl) ?_
     refine .off rfl rfl rfl hc11 rfl (by rfl) ?_
     refine .v (f_pick_false (by rfl) hc11) rfl (.c rfl (.c rfl .nil)) .nil ?_
     refine .mv rfl (by rfl) ?_
     refine .off rfl rfl rfl rfl rfl (by rfl) ?_
     refine .off rfl rfl rfl rfl rfl (by rfl) ?_
     refine .off rfl rfl rfl rfl rfl (by rfl) ?_
     refine .v (f_pick_false (by rfl) rfl) rfl (.c rfl (.c rfl .nil)) .nil ?_
     refine .as rfl (by rfl) ?_
     refine .nil ?_
     obtain rfl := Option.some.inj h
     refine aq_weak (s' := ⟨[(8, .d (.val (.bool false)))], [], []⟩) id hb0 (.keep rfl .nil) .nil rfl (by rfl) ?_
     exact jq
   refine aq_then ?_
   refine aw_ret ?_
   refine aq_then_ret ?_
   obtain rfl := Option.some.inj h
   exact aq_finp hb0 rfl (.tmp rfl (by rfl) .nil) (by rfl) rfl ⟨rfl, rfl⟩
 replace h := ite_f hc10 h
 refine aw_skip ?_
 refine aq_then ?_
 refine aw_rds ?_
 refine .v (f_load (n := 0) (o := 10) (off := 0) (p := []) (c := .d (eGShard y8.1)) (z := .d (eGShard y8.1)) (by rfl) rfl ty74 (by rfl)) rfl (.c rfl .nil) (.cons rfl .nil) ?_
 refine .v (f_load (n := 0) (o := 7) (off := 0) (p := []) (c := .d (eGTx a3)) (z := .d (eGTx a3)) (by rfl) rfl ty36 (by rfl)) rfl (.c rfl .nil) (.cons rfl .nil) ?_
 obtain ⟨y15, hy16, h⟩ := bind_some h
 refine .v (f_callP hgl (by rfl) en39 rfl (by rfl) (by rfl) (by rfl) (F39_tx_From_ok hy16)) rfl (.c rfl .nil) .nil ?_
 refine .v (f_fieldAddr (n := 64) (by rfl) fl36_2 (by decide)) rfl (.c rfl .nil) .nil ?_
 refine .v (f_load (n := 0) (o := 7) (off := (0 + 64)) (p := [2]) (c := .d (eGTx a3)) (z := .d (.val (.int .u64 a3.Nonce))) (by rfl) rfl ty27 (by rfl)) rfl (.c rfl .nil) (.cons rfl .nil) ?_
 obtain ⟨y17, hy18, h⟩ := bind_some h
 refine .v (f_callP hgl (by rfl) en51 rfl (by rfl) (by rfl) (by rfl) (F51_beadrolllaw20_find_ok hy18)) rfl (.c rfl (.c rfl (.c rfl .nil))) .nil ?_
 refine .v (f_move (by rfl)) rfl (.c rfl .nil) .nil ?_
 refine .v (f_extract (by rfl) rfl) rfl (.c rfl .nil) .nil ?_
 refine .v (f_extract (by rfl) rfl) rfl (.c rfl .nil) .nil ?_
 refine .n (f_alloc 13 (by rfl) zr36) rfl .nil rfl ?_
 refine .s (f_store (n := 0) (o := 13) (off := 0) (p := []) (c := .d (eGTx (⟨(List.replicate 32 (0 : Int)), (List.replicate 32 (0 : Int)), (0 : Int), (0 : Int), (0 : Int), (List.replicate 32 (0 : Int))⟩ : GTx))) (old := .d (eGTx (⟨(List.replicate 32 (0 : Int)), (List.replicate 32 (0 : Int)), (0 : Int), (0 : Int), (0 : Int), (List.replicate 32 (0 : Int))⟩ : GTx))) (z := .d (eGTx y17.1)) (c' := .d (eGTx y17.1)) rfl rfl (by rfl) ty36 (by rfl)) rfl (.c rfl (.c rfl .nil)) (.cons rfl .nil) ?_
 refine .v (f_assign (by rfl)) rfl (.c rfl .nil) .nil ?_
 refine .nil (by kernel_rfl) ?_
 refine aw_seq ?_
 refine aw_seq ?_
 obtain ⟨o29, ho74, h⟩ := bind_some h
 refine aw_join (.normal) ⟨[(1, .d (.val (.int .i64 a1))), (4, .ptr 4 0 []), (9, .d (.val (.bool y1))), (10, .ptr 10 0 []), (11, .d (eL24 y8.2.1)), (87, .d (.val (.bool o29)))], [(4, .av (.d (eGShard a0))), (10, .av (.d (eGShard y8.1)))], []⟩ ?_ ?_
 · replace h := ho74
   refine aw_rd ?_
   refine .v (f_move (by rfl)) rfl (.c rfl .nil) .nil ?_
   refine .v (f_not (by rfl)) rfl (.c rfl .nil) .nil ?_
   refine .v (f_move (by rfl)) rfl (.c rfl .nil) .nil ?_
   rcases Bool.eq_false_or_eq_true (!y17.2) with hc19 | hc19
   · replace h := ite_t hc19 h
     refine .off rfl rfl rfl hc19 rfl (by rfl) ?_
     refine .off rfl rfl rfl hc19 rfl (by rfl) ?_
     refine .off rfl rfl rfl hc19 rfl (by rfl) ?_
     refine .v (f_pick_true (by rfl) hc19) rfl (.c rfl (.c rfl .nil)) .nil ?_
     refine .v (f_move (by rfl)) rfl (.c rfl .nil) .nil ?_
     refine .off rfl rfl rfl rfl rfl (by rfl) ?_
     refine .off rfl rfl rfl rfl rfl (by rfl) ?_
     refine .off rfl rfl rfl rfl rfl (by rfl) ?_
     refine .v (f_pick_true (by rfl) rfl) rfl (.c rfl (.c rfl .nil)) .nil ?_
     refine .v (f_move (by rfl)) rfl (.c rfl .nil) .nil ?_
     refine .off rfl rfl rfl rfl rfl (by rfl) ?_
     refine .off rfl rfl rfl rfl rfl (by rfl) ?_
     refine .off rfl rfl rfl rfl rfl (by rfl) ?_
     refine .v (f_pick_true (by rfl) rfl) rfl (.c rfl (.c rfl .nil)) .nil ?_
     refine .v (f_move (by rfl)) rfl (.c rfl .nil) .nil ?_
     refine .off rfl rfl rfl rfl rfl (by rfl) ?_
     refine .off rfl rfl rfl rfl rfl (by rfl) ?_
     refine .off rfl rfl rfl rfl rfl (by rfl) ?_
     refine .off rfl rfl rfl rfl rfl (by rfl) ?_
     refine .off rfl rfl rfl rfl rfl (by rfl) ?_
     refine .off rfl rfl rfl rfl rfl (by rfl) ?_
     refine .off rfl rfl rfl rfl rfl (by rfl) ?_
     refine .off rfl rfl rfl rfl rfl (by rfl) ?_
     refine .off rfl rfl rfl rfl rfl (by rfl) ?_
     refine .v (f_pick_true (by rfl) rfl) rfl (.c rfl (.c rfl .nil)) .nil ?_
     refine .nil (by kernel_rfl) ?_
     obtain rfl := Option.some.inj h
     refine aq_weak (s' := ⟨[(1, .d (.val (.int .i64 a1))), (4, .ptr 4 0 []), (9, .d (.val (.bool y1))), (10, .ptr 10 0 []), (11, .d (eL24 y8.2.1)), (87, .d (.val (.bool true)))], [(4, .av (.d (eGShard a0))), (10, .av (.d (eGShard y8.1)))], []⟩) id hb0 (.keep rfl (.keep rfl (.keep rfl (.keep rfl (.keep rfl (.keep rfl .nil)))))) (.keep rfl (.keep rfl .nil)) rfl (by rfl) ?_
     exact jq
   replace h := ite_f hc19 h
   refine .gv (f_load (n := 0) (o := 13) (off := 0) (p := []) (c := .d (eGTx y17.1)) (z := .d (eGTx y17.1)) (by rfl) rfl ty36 (by rfl)) rfl rfl rfl hc19 (.c rfl .nil) (.cons rfl .nil) ?_
   refine .gv (f_load (n := 0) (o := 7) (off := 0) (p := []) (c := .d (eGTx a3)) (z := .d (eGTx a3)) (by rfl) rfl ty36 (by rfl)) rfl rfl rfl hc19 (.c rfl .nil) (.cons rfl .nil) ?_
   refine .gv (f_neqT (by rfl) (fit36 _) (fit36 _) (by rfl) (by rfl) gd36 (eq_eGTx _ _)) rfl rfl rfl hc19 (.c rfl (.c rfl .nil)) .nil ?_
   refine .v (f_pick_false (by rfl) hc19) rfl (.c rfl (.c rfl .nil)) .nil ?_
   refine .v (f_move (by rfl)) rfl (.c rfl .nil) .nil ?_
   rcases Bool.eq_false_or_eq_true (!(decide (y17.1 = a3))) with hc20 | hc20
   · replace h := ite_t hc20 h
     refine .off rfl rfl rfl hc20 rfl (by rfl) ?_
     refine .off rfl rfl rfl hc20 rfl (by rfl) ?_
     refine .off rfl rfl rfl hc20 rfl (by rfl) ?_
     refine .v (f_pick_true (by rfl) hc20) rfl (.c rfl (.c rfl .nil)) .nil ?_
     refine .v (f_move (by rfl)) rfl (.c rfl .nil) .nil ?_
     refine .off rfl rfl rfl rfl rfl (by rfl) ?_
     refine .off rfl rfl rfl rfl rfl (by rfl) ?_
     refine .off rfl rfl rfl rfl rfl (by rfl) ?_
     refine .v (f_pick_true (by rfl) rfl) rfl (.c rfl (.c rfl .nil)) .nil ?_
     refine .v (f_move (by rfl)) rfl (.c rfl .nil) .nil ?_
     refine .off rfl rfl rfl rfl rfl (by rfl) ?_
     refine .off rfl rfl rfl rfl rfl (by rfl) ?_
     refine .off rfl rfl rfl rfl rfl (by rfl) ?_
     refine .off rfl rfl rfl rfl rfl (by rfl) ?_
     refine .off rfl rfl rfl rfl rfl (by rfl) ?_
     refine .off rfl rfl rfl rfl rfl (by rfl) ?_
     refine .off rfl rfl rfl rfl rfl (by rfl) ?_
     refine .off rfl rfl rfl rfl rfl (by rfl) ?_
     refine .off rfl rfl rfl rfl rfl (by rfl) ?_
     refine .v (f_pick_true (by rfl) rfl) rfl (.c rfl (.c rfl .nil)) .nil ?_
     refine .nil (by kernel_rfl) ?_
     obtain rfl := Option.some.inj h
     refine aq_weak (s' := ⟨[(1, .d (.val (.int .i64 a1))), (4, .ptr 4 0 []), (9, .d (.val (.bool y1))), (10, .ptr 10 0 []), (11, .d (eL24 y8.2.1)), (87, .d (.val (.bool true)))], [(4, .av (.d (eGShard a0))), (10, .av (.d (eGShard y8.1)))], []⟩) id hb0 (.keep rfl (.keep rfl (.keep rfl (.keep rfl (.keep rfl (.keep rfl .nil)))))) (.keep rfl (.keep rfl .nil)) rfl (by rfl) ?_
     exact jq
   replace h := ite_f hc20 h
   refine .gv (f_move (by rfl)) rfl rfl rfl hc20 (.c rfl .nil) .nil ?_
   refine .gv (f_lenD (n := (y8.2.1).length) (by rfl) sl24 rfl (by simp)) rfl rfl rfl hc20 (.c rfl .nil) .nil ?_
   refine .gv (f_binI (by rfl) rfl (by rfl)) rfl rfl rfl hc20 (.c rfl (.c rfl .nil)) .nil ?_
   refine .v (f_pick_false (by rfl) hc20) rfl (.c rfl (.c rfl .nil)) .nil ?_
   refine .v (f_move (by rfl)) rfl (.c rfl .nil) .nil ?_
   rcases Bool.eq_false_or_eq_true (decide (((y8.2.1).length : Int) > (1 : Int))) with hc21 | hc21
   · replace h := ite_t hc21 h
     refine .off rfl rfl rfl hc21 rfl (by rfl) ?_
     refine .off rfl rfl rfl hc21 rfl (by rfl) ?_
     refine .off rfl rfl rfl hc21 rfl (by rfl) ?_
     refine .v (f_pick_true (by rfl) hc21) rfl (.c rfl (.c rfl .nil)) .nil ?_
     refine .v (f_move (by rfl)) rfl (.c rfl .nil) .nil ?_
     refine .off rfl rfl rfl rfl rfl (by rfl) ?_
     refine .off rfl rfl rfl rfl rfl (by rfl) ?_
     refine .off rfl rfl rfl rfl rfl (by rfl) ?_
     refine .off rfl rfl rfl rfl rfl (by rfl) ?_
     refine .off rfl rfl rfl rfl rfl (by rfl) ?_
     refine .off rfl rfl rfl rfl rfl (by rfl) ?_
     refine .off rfl rfl rfl rfl rfl (by rfl) ?_
     refine .off rfl rfl rfl rfl rfl (by rfl) ?_
     refine .off rfl rfl rfl rfl rfl (by rfl) ?_
     refine .v (f_pick_true (by rfl) rfl) rfl (.c rfl (.c rfl .nil)) .nil ?_
     refine .nil (by kernel_rfl) ?_
     obtain rfl := Option.some.inj h
     refine aq_weak (s' := ⟨[(1, .d (.val (.int .i64 a1))), (4, .ptr 4 0 []), (9, .d (.val (.bool y1))), (10, .ptr 10 0 []), (11, .d (eL24 y8.2.1)), (87, .d (.val (.bool true)))], [(4, .av (.d (eGShard a0))), (10, .av (.d (eGShard y8.1)))], []⟩) id hb0 (.keep rfl (.keep rfl (.keep rfl (.keep rfl (.keep rfl (.keep rfl .nil)))))) (.keep rfl (.keep rfl .nil)) rfl (by rfl) ?_
     exact jq
   replace h := ite_f hc21 h
   refine .gv (f_load (n := 0) (o := 10) (off := 0) (p := []) (c := .d (eGShard y8.1)) (z := .d (eGShard y8.1)) (by rfl) rfl ty74 (by rfl)) rfl rfl rfl hc21 (.c rfl .nil) (.cons rfl .nil) ?_
   obtain ⟨y22, hy23, h⟩ := bind_some h
   refine .gv (f_callP hgl (by rfl) en52 rfl (by rfl) (by rfl) (by rfl) (F52_shard_Check_ok hy23)) rfl rfl rfl hc21 (.c rfl .nil) .nil ?_
   refine .gv (f_binI (by rfl) rfl (by rfl)) rfl rfl rfl hc21 (.c rfl (.c rfl .nil)) .nil ?_
   refine .v (f_pick_false (by rfl) hc21) rfl (.c rfl (.c rfl .nil)) .nil ?_
   refine .v (f_move (by rfl)) rfl (.c rfl .nil) .nil ?_
   rcases Bool.eq_false_or_eq_true (y22 != (0 : Int)) with hc24 | hc24
   · replace h := ite_t hc24 h
     refine .off rfl rfl rfl hc24 rfl (by rfl) ?_
     refine .off rfl rfl rfl hc24 rfl (by rfl) ?_
     refine .off rfl rfl rfl hc24 rfl (by rfl) ?_
     refine .off rfl rfl rfl hc24 rfl (by rfl) ?_
     refine .off rfl rfl rfl hc24 rfl (by rfl) ?_
     refine .off rfl rfl rfl hc24 rfl (by rfl) ?_
     refine .off rfl rfl rfl hc24 rfl (by rfl) ?_
     refine .off rfl rfl rfl hc24 rfl (by rfl) ?_
     refine .off rfl rfl rfl hc24 rfl (by rfl) ?_
     refine .v (f_pick_true (by rfl) hc24) rfl (.c rfl (.c rfl .nil)) .nil ?_
     refine .nil (by kernel_rfl) ?_
     obtain rfl := Option.some.inj h
     refine aq_weak (s' := ⟨[(1, .d (.val (.int .i64 a1))), (4, .ptr 4 0 []), (9, .d (.val (.bool y1))), (10, .ptr 10 0 []), (11, .d (eL24 y8.2.1)), (87, .d (.val (.bool true)))], [(4, .av (.d (eGShard a0))), (10, .av (.d (eGShard y8.1)))], []⟩) id hb0 (.keep rfl (.keep rfl (.keep rfl (.keep rfl (.keep rfl (.keep rfl .nil)))))) (.keep rfl (.keep rfl .nil)) rfl (by rfl) ?_
     exact jq
   replace h := ite_f hc24 h
   refine .gv (f_load (n := 0) (o := 10) (off := 0) (p := []) (c := .d (eGShard y8.1)) (z := .d (eGShard y8.1)) (by rfl) rfl ty74 (by rfl)) rfl rfl rfl hc24 (.c rfl .nil) (.cons rfl .nil) ?_
   obtain ⟨y25, hy26, h⟩ := bind_some h
   refine .gv (f_callP hgl (by rfl) en53 rfl (by rfl) (by rfl) (by rfl) (F53_shard_Count_ok hy26)) rfl rfl rfl hc24 (.c rfl .nil) .nil ?_
   refine .gv (f_load (n := 0) (o := 4) (off := 0) (p := []) (c := .d (eGShard a0)) (z := .d (eGShard a0)) (by rfl) rfl ty74 (by rfl)) rfl rfl rfl hc24 (.c rfl .nil) (.cons rfl .nil) ?_
   obtain ⟨y27, hy28, h⟩ := bind_some h
   refine .gv (f_callP hgl (by rfl) en53 rfl (by rfl) (by rfl) (by rfl) (F53_shard_Count_ok hy28)) rfl rfl rfl hc24 (.c rfl .nil) .nil ?_
   refine .gv (f_binI (by rfl) rfl (by rfl)) rfl rfl rfl hc24 (.c rfl (.c rfl .nil)) .nil ?_
   refine .gv (f_move (by rfl)) rfl rfl rfl hc24 (.c rfl .nil) .nil ?_
   refine .gv (f_lenD (n := (y8.2.1).length) (by rfl) sl24 rfl (by simp)) rfl rfl rfl hc24 (.c rfl .nil) .nil ?_
   refine .gv (f_binI (by rfl) rfl (by rfl)) rfl rfl rfl hc24 (.c rfl (.c rfl .nil)) .nil ?_
   refine .gv (f_binI (by rfl) rfl (by rfl)) rfl rfl rfl hc24 (.c rfl (.c rfl .nil)) .nil ?_
   refine .v (f_pick_false (by rfl) hc24) rfl (.c rfl (.c rfl .nil)) .nil ?_
   refine .nil (by kernel_rfl) ?_
   obtain rfl := Option.some.inj h
   refine aq_weak (s' := ⟨[(1, .d (.val (.int .i64 a1))), (4, .ptr 4 0 []), (9, .d (.val (.bool y1))), (10, .ptr 10 0 []), (11, .d (eL24 y8.2.1)), (87, .d (.val (.bool (y25 != (IntKind.i64.wrap ((IntKind.i64.wrap (y27 + (1 : Int))) - ((y8.2.1).length : Int)))))))], [(4, .av (.d (eGShard a0))), (10, .av (.d (eGShard y8.1)))], []⟩) id hb0 (.keep rfl (.keep rfl (.keep rfl (.keep rfl (.keep rfl (.keep rfl .nil)))))) (.keep rfl (.keep rfl .nil)) rfl (by rfl) ?_
   exact jq
 refine aq_then ?_
 refine aw_cond rfl (fun hc30 => ?_) (fun hc30 => ?_)
 · replace h := ite_t hc30 h
   refine aw_rs ?_
   refine .as rfl (by rfl) ?_
   refine .nil (aq_then ?_)
   refine aw_ret ?_
   refine aq_then_ret ?_
   obtain rfl := Option.some.inj h
   exact aq_finp hb0 rfl (.tmp rfl (by rfl) .nil) (by rfl) rfl ⟨rfl, rfl⟩
 replace h := ite_f hc30 h
 refine aw_skip ?_
 refine aq_then ?_
 refine aw_seq ?_
 refine aw_rs ?_
 refine .as rfl (by rfl) ?_
 refine .nil (aq_then ?_)
 refine aw_block ?_
 refine aw_weak (s' := ⟨[(1, .d (.val (.int .i64 a1))), (4, .ptr 4 0 []), (9, .d (.val (.bool y1))), (10, .ptr 10 0 []), (11, .d (eL24 y8.2.1)), (15, .d (.val (.int .i64 (0 : Int))))], [(4, .av (.d (eGShard a0))), (10, .av (.d (eGShard y8.1)))], []⟩) id hb0 (.keep rfl (.keep rfl (.keep rfl (.keep rfl (.keep rfl (.keep rfl .nil)))))) (.keep rfl (.keep rfl .nil)) rfl (by rfl) ?_
 obtain ⟨o62, ho63, h⟩ := bind_some h
 refine aw_loopX (σ := Int) (fun z => ⟨[(1, .d (.val (.int .i64 a1))), (4, .ptr 4 0 []), (9, .d (.val (.bool y1))), (10, .ptr 10 0 []), (11, .d (eL24 y8.2.1)), (15, .d (.val (.int .i64 z)))], [(4, .av (.d (eGShard a0))), (10, .av (.d (eGShard y8.1)))], []⟩) (Sum.elim (fun _ => .exit 0) (fun _ => .ret)) (Sum.elim (fun j62 => ⟨[(1, .d (.val (.int .i64 a1))), (4, .ptr 4 0 []), (9, .d (.val (.bool y1))), (10, .ptr 10 0 [])], [(4, .av (.d (eGShard a0))), (10, .av (.d (eGShard y8.1)))], []⟩) (fun j62 => ⟨[(8, .d (.val (.bool false)))], [], []⟩)) ho63 (by intro b; rcases b with _ | _ <;> rfl) ?_ ?_
 · clear h ho63
   intro z0_0 o h
   change F8_beadrolllaw20_ShardKeeps_s0 n a0 y8 z0_0 = some o at h
   unfold F8_beadrolllaw20_ShardKeeps_s0 at h
   show AW _ _ _ ⟨[(1, .d (.val (.int .i64 a1))), (4, .ptr 4 0 []), (9, .d (.val (.bool y1))), (10, .ptr 10 0 []), (11, .d (eL24 y8.2.1)), (15, .d (.val (.int .i64 z0_0)))], [(4, .av (.d (eGShard a0))), (10, .av (.d (eGShard y8.1)))], []⟩
   refine aw_seq ?_
   refine aw_rs ?_
   refine .mv rfl (by rfl) ?_
   refine .v (f_fieldAddr (n := 0) (by rfl) fl74_0 (by decide)) rfl (.c rfl .nil) .nil ?_
   refine .v (f_load (n := 0) (o := 4) (off := (0 + 0)) (p := [0]) (c := .d (eGShard a0)) (z := .d (eL72 a0.Lines)) (by rfl) rfl ty72 (by rfl)) rfl (.c rfl .nil) (.cons rfl .nil) ?_
   refine .v (f_lenD (n := (a0.Lines).length) (by rfl) sl72 rfl (by simp)) rfl (.c rfl .nil) .nil ?_
   refine .v (f_binI (by rfl) rfl (by rfl)) rfl (.c rfl (.c rfl .nil)) .nil ?_
   refine .nil (aq_then ?_)
   refine aw_cond rfl (fun hc31 => ?_) (fun hc31 => ?_)
   · replace h := ite_t hc31 h
     refine aw_skip ?_
     refine aq_then ?_
     refine aw_seq ?_
     refine aw_block ?_
     refine aw_rs ?_
     refine .as rfl (by rfl) ?_
     refine .nil (aq_then ?_)
     refine aw_block ?_
     refine aw_weak (s' := ⟨[(1, .d (.val (.int .i64 a1))), (4, .ptr 4 0 []), (9, .d (.val (.bool y1))), (10, .ptr 10 0 []), (11, .d (eL24 y8.2.1)), (15, .d (.val (.int .i64 z0_0))), (16, .d (.val (.int .i64 (0 : Int))))], [(4, .av (.d (eGShard a0))), (10, .av (.d (eGShard y8.1)))], []⟩) id hb0 (.keep rfl (.keep rfl (.keep rfl (.keep rfl (.keep rfl (.keep rfl (.keep rfl .nil))))))) (.keep rfl (.keep rfl .nil)) rfl (by rfl) ?_
     obtain ⟨o60, ho61, h⟩ := bind_some h
     refine aw_loopX (σ := Int) (fun z => ⟨[(1, .d (.val (.int .i64 a1))), (4, .ptr 4 0 []), (9, .d (.val (.bool y1))), (10, .ptr 10 0 []), (11, .d (eL24 y8.2.1)), (15, .d (.val (.int .i64 z0_0))), (16, .d (.val (.int .i64 z)))], [(4, .av (.d (eGShard a0))), (10, .av (.d (eGShard y8.1)))], []⟩) (Sum.elim (fun _ => .exit 2) (fun _ => .ret)) (Sum.elim (fun j60 => ⟨[(1, .d (.val (.int .i64 a1))), (4, .ptr 4 0 []), (9, .d (.val (.bool y1))), (10, .ptr 10 0 []), (11, .d (eL24 y8.2.1)), (15, .d (.val (.int .i64 z0_0)))], [(4, .av (.d (eGShard a0))), (10, .av (.d (eGShard y8.1)))], []⟩) (fun j60 => ⟨[(8, .d (.val (.bool false)))], [], []⟩)) ho61 (by intro b; rcases b with _ | _ <;> rfl) ?_ ?_
     · clear h ho61
       intro z1_0 o h
       change F8_beadrolllaw20_ShardKeeps_s1 n a0 y8 z0_0 z1_0 = some o at h
       unfold F8_beadrolllaw20_ShardKeeps_s1 at h
       show AW _ _ _ ⟨[(1, .d (.val (.int .i64 a1))), (4, .ptr 4 0 []), (9, .d (.val (.bool y1))), (10, .ptr 10 0 []), (11, .d (eL24 y8.2.1)), (15, .d (.val (.int .i64 z0_0))), (16, .d (.val (.int .i64 z1_0)))], [(4, .av (.d (eGShard a0))), (10, .av (.d (eGShard y8.1)))], []⟩
       refine aw_seq ?_
       refine aw_rs ?_
       refine .mv rfl (by rfl) ?_
       refine .v (f_fieldAddr (n := 0) (by rfl) fl74_0 (by decide)) rfl (.c rfl .nil) .nil ?_
       refine .v (f_load (n := 0) (o := 4) (off := (0 + 0)) (p := [0]) (c := .d (eGShard a0)) (z := .d (eL72 a0.Lines)) (by rfl) rfl ty72 (by rfl)) rfl (.c rfl .nil) (.cons rfl .nil) ?_
       refine .mv rfl (by rfl) ?_
       obtain ⟨x32, hx33, h⟩ := bind_some h
       obtain ⟨hx34, hx33⟩ := rd_some hx33
       refine .v (f_indexS (by rfl) sl72 hx34 (rd_map _ hx33)) rfl (.c rfl (.c rfl .nil)) .nil ?_
       refine .v (f_fieldAddrR (by rfl) fl26_1 (by decide) rfl) rfl (.c rfl .nil) .nil ?_
       refine .v (f_loadR (z := (eL24 x32.Txs)) (by rfl) ty24) rfl (.c rfl .nil) .nil ?_
       refine .v (f_lenD (n := (x32.Txs).length) (by rfl) sl24 rfl (by simp)) rfl (.c rfl .nil) .nil ?_
       refine .v (f_binI (by rfl) rfl (by rfl)) rfl (.c rfl (.c rfl .nil)) .nil ?_
       refine .nil (aq_then ?_)
       refine aw_cond rfl (fun hc35 => ?_) (fun hc35 => ?_)
       · replace h := ite_t hc35 h
         refine aw_skip ?_
         refine aq_then ?_
         refine aw_seq ?_
         refine aw_block ?_
         refine aw_rs ?_
         refine .v (f_fieldAddr (n := 0) (by rfl) fl74_0 (by decide)) rfl (.c rfl .nil) .nil ?_
         refine .v (f_load (n := 0) (o := 4) (off := (0 + 0)) (p := [0]) (c := .d (eGShard a0)) (z := .d (eL72 a0.Lines)) (by rfl) rfl ty72 (by rfl)) rfl (.c rfl .nil) (.cons rfl .nil) ?_
         refine .mv rfl (by rfl) ?_
         obtain ⟨x36, hx37, h⟩ := bind_some h
         obtain ⟨hx38, hx37⟩ := rd_some hx37
         refine .v (f_indexS (by rfl) sl72 hx38 (rd_map _ hx37)) rfl (.c rfl (.c rfl .nil)) .nil ?_
         refine .v (f_fieldAddrR (by rfl) fl26_1 (by decide) rfl) rfl (.c rfl .nil) .nil ?_
         refine .v (f_loadR (z := (eL24 x36.Txs)) (by rfl) ty24) rfl (.c rfl .nil) .nil ?_
         refine .mv rfl (by rfl) ?_
         obtain ⟨x39, hx40, h⟩ := bind_some h
         obtain ⟨hx41, hx40⟩ := rd_some hx40
         refine .v (f_indexS (by rfl) sl24 hx41 (rd_map _ hx40)) rfl (.c rfl (.c rfl .nil)) .nil ?_
         refine .v (f_loadR (z := (eGTx x39)) (by rfl) ty36) rfl (.c rfl .nil) .nil ?_
         refine .n (f_alloc 17 (by rfl) zr36) rfl .nil rfl ?_
         refine .s (f_store (n := 0) (o := 17) (off := 0) (p := []) (c := .d (eGTx (⟨(List.replicate 32 (0 : Int)), (List.replicate 32 (0 : Int)), (0 : Int), (0 : Int), (0 : Int), (List.replicate 32 (0 : Int))⟩ : GTx))) (old := .d (eGTx (⟨(List.replicate 32 (0 : Int)), (List.replicate 32 (0 : Int)), (0 : Int), (0 : Int), (0 : Int), (List.replicate 32 (0 : Int))⟩ : GTx))) (z := .d (eGTx x39)) (c' := .d (eGTx x39)) rfl rfl (by rfl) ty36 (by rfl)) rfl (.c rfl (.c rfl .nil)) (.cons rfl .nil) ?_
         refine .nil (aq_then ?_)
         refine aw_rds ?_
         refine .v (f_load (n := 0) (o := 10) (off := 0) (p := []) (c := .d (eGShard y8.1)) (z := .d (eGShard y8.1)) (by rfl) rfl ty74 (by rfl)) rfl (.c rfl .nil) (.cons rfl .nil) ?_
         refine .v (f_fieldAddr (n := 0) (by rfl) fl74_0 (by decide)) rfl (.c rfl .nil) .nil ?_
         refine .v (f_load (n := 0) (o := 4) (off := (0 + 0)) (p := [0]) (c := .d (eGShard a0)) (z := .d (eL72 a0.Lines)) (by rfl) rfl ty72 (by rfl)) rfl (.c rfl .nil) (.cons rfl .nil) ?_
         refine .v (f_move (by rfl)) rfl (.c rfl .nil) .nil ?_
         obtain ⟨x42, hx43, h⟩ := bind_some h
         obtain ⟨hx44, hx43⟩ := rd_some hx43
         refine .v (f_indexS (by rfl) sl72 hx44 (rd_map _ hx43)) rfl (.c rfl (.c rfl .nil)) .nil ?_
         refine .v (f_fieldAddrR (by rfl) fl26_0 (by decide) rfl) rfl (.c rfl .nil) .nil ?_
         refine .v (f_loadR (z := (eA22 x42.From)) (by rfl) ty23) rfl (.c rfl .nil) .nil ?_
         refine .v (f_fieldAddr (n := 64) (by rfl) fl36_2 (by decide)) rfl (.c rfl .nil) .nil ?_
         refine .v (f_load (n := 0) (o := 17) (off := (0 + 64)) (p := [2]) (c := .d (eGTx x39)) (z := .d (.val (.int .u64 x39.Nonce))) (by rfl) rfl ty27 (by rfl)) rfl (.c rfl .nil) (.cons rfl .nil) ?_
         obtain ⟨y45, hy46, h⟩ := bind_some h
         refine .v (f_callP hgl (by rfl) en51 rfl (by rfl) (by rfl) (by rfl) (F51_beadrolllaw20_find_ok hy46)) rfl (.c rfl (.c rfl (.c rfl .nil))) .nil ?_
         refine .v (f_move (by rfl)) rfl (.c rfl .nil) .nil ?_
         refine .v (f_extract (by rfl) rfl) rfl (.c rfl .nil) .nil ?_
         refine .v (f_extract (by rfl) rfl) rfl (.c rfl .nil) .nil ?_
         refine .n (f_alloc 18 (by rfl) zr36) rfl .nil rfl ?_
         refine .s (f_store (n := 0) (o := 18) (off := 0) (p := []) (c := .d (eGTx (⟨(List.replicate 32 (0 : Int)), (List.replicate 32 (0 : Int)), (0 : Int), (0 : Int), (0 : Int), (List.replicate 32 (0 : Int))⟩ : GTx))) (old := .d (eGTx (⟨(List.replicate 32 (0 : Int)), (List.replicate 32 (0 : Int)), (0 : Int), (0 : Int), (0 : Int), (List.replicate 32 (0 : Int))⟩ : GTx))) (z := .d (eGTx y45.1)) (c' := .d (eGTx y45.1)) rfl rfl (by rfl) ty36 (by rfl)) rfl (.c rfl (.c rfl .nil)) (.cons rfl .nil) ?_
         refine .v (f_assign (by rfl)) rfl (.c rfl .nil) .nil ?_
         refine .nil (by kernel_rfl) ?_
         refine aw_seq ?_
         obtain ⟨o57, ho59, h⟩ := bind_some h
         refine aw_join (.normal) ⟨[(1, .d (.val (.int .i64 a1))), (4, .ptr 4 0 []), (9, .d (.val (.bool y1))), (10, .ptr 10 0 []), (11, .d (eL24 y8.2.1)), (15, .d (.val (.int .i64 z0_0))), (16, .d (.val (.int .i64 z1_0))), (147, .d (.val (.bool o57)))], [(4, .av (.d (eGShard a0))), (10, .av (.d (eGShard y8.1)))], []⟩ ?_ ?_
         · replace h := ho59
           refine aw_rd ?_
           refine .v (f_move (by rfl)) rfl (.c rfl .nil) .nil ?_
           refine .v (f_move (by rfl)) rfl (.c rfl .nil) .nil ?_
           rcases Bool.eq_false_or_eq_true y45.2 with hc47 | hc47
           · replace h := ite_t hc47 h
             refine .gv (f_load (n := 0) (o := 18) (off := 0) (p := []) (c := .d (eGTx y45.1)) (z := .d (eGTx y45.1)) (by rfl) rfl ty36 (by rfl)) rfl rfl rfl hc47 (.c rfl .nil) (.cons rfl .nil) ?_
             refine .gv (f_load (n := 0) (o := 17) (off := 0) (p := []) (c := .d (eGTx x39)) (z := .d (eGTx x39)) (by rfl) rfl ty36 (by rfl)) rfl rfl rfl hc47 (.c rfl .nil) (.cons rfl .nil) ?_
             refine .gv (f_eqlT (by rfl) (fit36 _) (fit36 _) (by rfl) (by rfl) gd36 (eq_eGTx _ _)) rfl rfl rfl hc47 (.c rfl (.c rfl .nil)) .nil ?_
             refine .v (f_pick_true (by rfl) hc47) rfl (.c rfl (.c rfl .nil)) .nil ?_
             refine .v (f_not (by rfl)) rfl (.c rfl .nil) .nil ?_
             refine .v (f_move (by rfl)) rfl (.c rfl .nil) .nil ?_
             rcases Bool.eq_false_or_eq_true (!(decide (y45.1 = x39))) with hc48 | hc48
             · replace h := ite_t hc48 h
               refine .gv (f_move (by rfl)) rfl rfl rfl hc48 (.c rfl .nil) .nil ?_
               refine .gv (f_lenD (n := (y8.2.1).length) (by rfl) sl24 rfl (by simp)) rfl rfl rfl hc48 (.c rfl .nil) .nil ?_
               refine .gv (f_binI (by rfl) rfl (by rfl)) rfl rfl rfl hc48 (.c rfl (.c rfl .nil)) .nil ?_
               refine .gv (f_move (by rfl)) rfl rfl rfl hc48 (.c rfl .nil) .nil ?_
               rcases Bool.eq_false_or_eq_true (((y8.2.1).length : Int) == (1 : Int)) with hc49 | hc49
               · replace h := ite_t hc49 h
                 refine .gv (f_move (by rfl)) rfl rfl rfl hc49 (.c rfl .nil) .nil ?_
                 obtain ⟨x50, hx51, h⟩ := bind_some h
                 obtain ⟨hx52, hx51⟩ := rd_some hx51
                 refine .gv (f_indexS (by rfl) sl24 hx52 (rd_map _ hx51)) rfl rfl rfl hc49 (.c rfl (.c rfl .nil)) .nil ?_
                 refine .gv (f_loadR (z := (eGTx x50)) (by rfl) ty36) rfl rfl rfl hc49 (.c rfl .nil) .nil ?_
                 refine .gv (f_load (n := 0) (o := 17) (off := 0) (p := []) (c := .d (eGTx x39)) (z := .d (eGTx x39)) (by rfl) rfl ty36 (by rfl)) rfl rfl rfl hc49 (.c rfl .nil) (.cons rfl .nil) ?_
                 refine .gv (f_eqlT (by rfl) (fit36 _) (fit36 _) (by rfl) (by rfl) gd36 (eq_eGTx _ _)) rfl rfl rfl hc49 (.c rfl (.c rfl .nil)) .nil ?_
                 refine .gv (f_pick_true (by rfl) hc49) rfl rfl rfl hc48 (.c rfl (.c rfl .nil)) .nil ?_
                 refine .gv (f_not (by rfl)) rfl rfl rfl hc48 (.c rfl .nil) .nil ?_
                 refine .v (f_pick_true (by rfl) hc48) rfl (.c rfl (.c rfl .nil)) .nil ?_
                 refine .nil (by kernel_rfl) ?_
                 obtain rfl := Option.some.inj h
                 refine aq_weak (s' := ⟨[(1, .d (.val (.int .i64 a1))), (4, .ptr 4 0 []), (9, .d (.val (.bool y1))), (10, .ptr 10 0 []), (11, .d (eL24 y8.2.1)), (15, .d (.val (.int .i64 z0_0))), (16, .d (.val (.int .i64 z1_0))), (147, .d (.val (.bool (!(decide (x50 = x39))))))], [(4, .av (.d (eGShard a0))), (10, .av (.d (eGShard y8.1)))], []⟩) id hb0 (.keep rfl (.keep rfl (.keep rfl (.keep rfl (.keep rfl (.keep rfl (.keep rfl (.keep rfl .nil)))))))) (.keep rfl (.keep rfl .nil)) rfl (by rfl) ?_
                 exact jq
               replace h := ite_f hc49 h
               refine .off rfl rfl rfl hc49 rfl (by rfl) ?_
               refine .off rfl rfl rfl hc49 rfl (by rfl) ?_
               refine .off rfl rfl rfl hc49 rfl (by rfl) ?_
               refine .off rfl rfl rfl hc49 rfl (by rfl) ?_
               refine .off rfl rfl rfl hc49 rfl (by rfl) ?_
               refine .gv (f_pick_false (by rfl) hc49) rfl rfl rfl hc48 (.c rfl (.c rfl .nil)) .nil ?_
               refine .gv (f_not (by rfl)) rfl rfl rfl hc48 (.c rfl .nil) .nil ?_
               refine .v (f_pick_true (by rfl) hc48) rfl (.c rfl (.c rfl .nil)) .nil ?_
               refine .nil (by kernel_rfl) ?_
               obtain rfl := Option.some.inj h
               refine aq_weak (s' := ⟨[(1, .d (.val (.int .i64 a1))), (4, .ptr 4 0 []), (9, .d (.val (.bool y1))), (10, .ptr 10 0 []), (11, .d (eL24 y8.2.1)), (15, .d (.val (.int .i64 z0_0))), (16, .d (.val (.int .i64 z1_0))), (147, .d (.val (.bool (!false))))], [(4, .av (.d (eGShard a0))), (10, .av (.d (eGShard y8.1)))], []⟩) id hb0 (.keep rfl (.keep rfl (.keep rfl (.keep rfl (.keep rfl (.keep rfl (.keep rfl (.keep rfl .nil)))))))) (.keep rfl (.keep rfl .nil)) rfl (by rfl) ?_
               exact jq
             replace h := ite_f hc48 h
             refine .off rfl rfl rfl hc48 rfl (by rfl) ?_
             refine .off rfl rfl rfl hc48 rfl (by rfl) ?_
             refine .off rfl rfl rfl hc48 rfl (by rfl) ?_
             refine .off rfl rfl rfl hc48 rfl (by rfl) ?_
             refine .offu rfl rfl rfl rfl (by rfl) ?_
             refine .offu rfl rfl rfl rfl (by rfl) ?_
             refine .offu rfl rfl rfl rfl (by rfl) ?_
             refine .offu rfl rfl rfl rfl (by rfl) ?_
             refine .offu rfl rfl rfl rfl (by rfl) ?_
             refine .off rfl rfl rfl hc48 rfl (by rfl) ?_
             refine .off rfl rfl rfl hc48 rfl (by rfl) ?_
             refine .v (f_pick_false (by rfl) hc48) rfl (.c rfl (.c rfl .nil)) .nil ?_
             refine .nil (by kernel_rfl) ?_
             obtain rfl := Option.some.inj h
             refine aq_weak (s' := ⟨[(1, .d (.val (.int .i64 a1))), (4, .ptr 4 0 []), (9, .d (.val (.bool y1))), (10, .ptr 10 0 []), (11, .d (eL24 y8.2.1)), (15, .d (.val (.int .i64 z0_0))), (16, .d (.val (.int .i64 z1_0))), (147, .d (.val (.bool false)))], [(4, .av (.d (eGShard a0))), (10, .av (.d (eGShard y8.1)))], []⟩) id hb0 (.keep rfl (.keep rfl (.keep rfl (.keep rfl (.keep rfl (.keep rfl (.keep rfl (.keep rfl .nil)))))))) (.keep rfl (.keep rfl .nil)) rfl (by rfl) ?_
             exact jq
           replace h := ite_f hc47 h
           refine .off rfl rfl rfl hc47 rfl (by rfl) ?_
           refine .off rfl rfl rfl hc47 rfl (by rfl) ?_
           refine .off rfl rfl rfl hc47 rfl (by rfl) ?_
           refine .v (f_pick_false (by rfl) hc47) rfl (.c rfl (.c rfl .nil)) .nil ?_
           refine .v (f_not (by rfl)) rfl (.c rfl .nil) .nil ?_
           refine .v (f_move (by rfl)) rfl (.c rfl .nil) .nil ?_
           refine .gv (f_move (by rfl)) rfl rfl rfl (not_t rfl) (.c rfl .nil) .nil ?_
           refine .gv (f_lenD (n := (y8.2.1).length) (by rfl) sl24 rfl (by simp)) rfl rfl rfl (not_t rfl) (.c rfl .nil) .nil ?_
           refine .gv (f_binI (by rfl) rfl (by rfl)) rfl rfl rfl (not_t rfl) (.c rfl (.c rfl .nil)) .nil ?_
           refine .gv (f_move (by rfl)) rfl rfl rfl (not_t rfl) (.c rfl .nil) .nil ?_
           rcases Bool.eq_false_or_eq_true (((y8.2.1).length : Int) == (1 : Int)) with hc53 | hc53
           · replace h := ite_t hc53 h
             refine .gv (f_move (by rfl)) rfl rfl rfl hc53 (.c rfl .nil) .nil ?_
             obtain ⟨x54, hx55, h⟩ := bind_some h
             obtain ⟨hx56, hx55⟩ := rd_some hx55
             refine .gv (f_indexS (by rfl) sl24 hx56 (rd_map _ hx55)) rfl rfl rfl hc53 (.c rfl (.c rfl .nil)) .nil ?_
             refine .gv (f_loadR (z := (eGTx x54)) (by rfl) ty36) rfl rfl rfl hc53 (.c rfl .nil) .nil ?_
             refine .gv (f_load (n := 0) (o := 17) (off := 0) (p := []) (c := .d (eGTx x39)) (z := .d (eGTx x39)) (by rfl) rfl ty36 (by rfl)) rfl rfl rfl hc53 (.c rfl .nil) (.cons rfl .nil) ?_
             refine .gv (f_eqlT (by rfl) (fit36 _) (fit36 _) (by rfl) (by rfl) gd36 (eq_eGTx _ _)) rfl rfl rfl hc53 (.c rfl (.c rfl .nil)) .nil ?_
             refine .gv (f_pick_true (by rfl) hc53) rfl rfl rfl (not_t rfl) (.c rfl (.c rfl .nil)) .nil ?_
             refine .gv (f_not (by rfl)) rfl rfl rfl (not_t rfl) (.c rfl .nil) .nil ?_
             refine .v (f_pick_true (by rfl) (not_t rfl)) rfl (.c rfl (.c rfl .nil)) .nil ?_
             refine .nil (by kernel_rfl) ?_
             obtain rfl := Option.some.inj h
             refine aq_weak (s' := ⟨[(1, .d (.val (.int .i64 a1))), (4, .ptr 4 0 []), (9, .d (.val (.bool y1))), (10, .ptr 10 0 []), (11, .d (eL24 y8.2.1)), (15, .d (.val (.int .i64 z0_0))), (16, .d (.val (.int .i64 z1_0))), (147, .d (.val (.bool (!(decide (x54 = x39))))))], [(4, .av (.d (eGShard a0))), (10, .av (.d (eGShard y8.1)))], []⟩) id hb0 (.keep rfl (.keep rfl (.keep rfl (.keep rfl (.keep rfl (.keep rfl (.keep rfl (.keep rfl .nil)))))))) (.keep rfl (.keep rfl .nil)) rfl (by rfl) ?_
             exact jq
           replace h := ite_f hc53 h
           refine .off rfl rfl rfl hc53 rfl (by rfl) ?_
           refine .off rfl rfl rfl hc53 rfl (by rfl) ?_
           refine .off rfl rfl rfl hc53 rfl (by rfl) ?_
           refine .off rfl rfl rfl hc53 rfl (by rfl) ?_
           refine .off rfl rfl rfl hc53 rfl (by rfl) ?_
           refine .gv (f_pick_false (by rfl) hc53) rfl rfl rfl (not_t rfl) (.c rfl (.c rfl .nil)) .nil ?_
           refine .gv (f_not (by rfl)) rfl rfl rfl (not_t rfl) (.c rfl .nil) .nil ?_
           refine .v (f_pick_true (by rfl) (not_t rfl)) rfl (.c rfl (.c rfl .nil)) .nil ?_
           refine .nil (by kernel_rfl) ?_
           obtain rfl := Option.some.inj h
           refine aq_weak (s' := ⟨[(1, .d (.val (.int .i64 a1))), (4, .ptr 4 0 []), (9, .d (.val (.bool y1))), (10, .ptr 10 0 []), (11, .d (eL24 y8.2.1)), (15, .d (.val (.int .i64 z0_0))), (16, .d (.val (.int .i64 z1_0))), (147, .d (.val (.bool (!false))))], [(4, .av (.d (eGShard a0))), (10, .av (.d (eGShard y8.1)))], []⟩) id hb0 (.keep rfl (.keep rfl (.keep rfl (.keep rfl (.keep rfl (.keep rfl (.keep rfl (.keep rfl .nil)))))))) (.keep rfl (.keep rfl .nil)) rfl (by rfl) ?_
           exact jq
         refine aq_then ?_
         refine aw_cond rfl (fun hc58 => ?_) (fun hc58 => ?_)
         · replace h := ite_t hc58 h
           refine aw_rs ?_
           refine .as rfl (by rfl) ?_
           refine .nil (aq_then ?_)
           refine aw_ret ?_
           refine aq_block_ret ?_
           refine aq_then_ret ?_
           obtain rfl := Option.some.inj h
           refine aq_weak (s' := ⟨[(8, .d (.val (.bool false)))], [], []⟩) id hb0 (.keep rfl .nil) .nil rfl (by rfl) ?_
           exact jq
         replace h := ite_f hc58 h
         refine aw_skip ?_
         refine aq_block ?_
         refine aq_then ?_
         refine aw_r ?_
         refine .mv rfl (by rfl) ?_
         refine .v (f_binI (by rfl) rfl (by rfl)) rfl (.c rfl (.c rfl .nil)) .nil ?_
         refine .as rfl (by rfl) ?_
         refine .nil ?_
         obtain rfl := Option.some.inj h
         refine aq_weak (s' := ⟨[(1, .d (.val (.int .i64 a1))), (4, .ptr 4 0 []), (9, .d (.val (.bool y1))), (10, .ptr 10 0 []), (11, .d (eL24 y8.2.1)), (15, .d (.val (.int .i64 z0_0))), (16, .d (.val (.int .i64 (IntKind.i64.wrap (z1_0 + (1 : Int))))))], [(4, .av (.d (eGShard a0))), (10, .av (.d (eGShard y8.1)))], []⟩) id hb0 (.keep rfl (.keep rfl (.keep rfl (.keep rfl (.keep rfl (.keep rfl (.keep rfl .nil))))))) (.keep rfl (.keep rfl .nil)) rfl (by rfl) ?_
         exact jq
       replace h := ite_f hc35 h
       refine aw_exit ?_
       refine aq_then_exit ?_
       obtain rfl := Option.some.inj h
       refine aq_weak (s' := ⟨[(1, .d (.val (.int .i64 a1))), (4, .ptr 4 0 []), (9, .d (.val (.bool y1))), (10, .ptr 10 0 []), (11, .d (eL24 y8.2.1)), (15, .d (.val (.int .i64 z0_0)))], [(4, .av (.d (eGShard a0))), (10, .av (.d (eGShard y8.1)))], []⟩) id hb0 (.keep rfl (.keep rfl (.keep rfl (.keep rfl (.keep rfl (.keep rfl .nil)))))) (.keep rfl (.keep rfl .nil)) rfl (by rfl) ?_
       exact jq
     rcases o60 with j60 | j60
     · replace h := elim_l h
       refine aq_block_exit ?_
       refine aq_block ?_
       refine aq_then ?_
       refine aw_r ?_
       refine .mv rfl (by rfl) ?_
       refine .v (f_binI (by rfl) rfl (by rfl)) rfl (.c rfl (.c rfl .nil)) .nil ?_
       refine .as rfl (by rfl) ?_
       refine .nil ?_
       obtain rfl := Option.some.inj h
       refine aq_weak (s' := ⟨[(1, .d (.val (.int .i64 a1))), (4, .ptr 4 0 []), (9, .d (.val (.bool y1))), (10, .ptr 10 0 []), (11, .d (eL24 y8.2.1)), (15, .d (.val (.int .i64 (IntKind.i64.wrap (z0_0 + (1 : Int))))))], [(4, .av (.d (eGShard a0))), (10, .av (.d (eGShard y8.1)))], []⟩) id hb0 (.keep rfl (.keep rfl (.keep rfl (.keep rfl (.keep rfl (.keep rfl .nil)))))) (.keep rfl (.keep rfl .nil)) rfl (by rfl) ?_
       exact jq
     replace h := elim_r h
     refine aq_block_ret ?_
     refine aq_block_ret ?_
     refine aq_then_ret ?_
     obtain rfl := Option.some.inj h
     refine aq_weak (s' := ⟨[(8, .d (.val (.bool false)))], [], []⟩) id hb0 (.keep rfl .nil) .nil rfl (by rfl) ?_
     exact jq
   replace h := ite_f hc31 h
   refine aw_exit ?_
   refine aq_then_exit ?_
   obtain rfl := Option.some.inj h
   refine aq_weak (s' := ⟨[(1, .d (.val (.int .i64 a1))), (4, .ptr 4 0 []), (9, .d (.val (.bool y1))), (10, .ptr 10 0 [])], [(4, .av (.d (eGShard a0))), (10, .av (.d (eGShard y8.1)))], []⟩) id hb0 (.keep rfl (.keep rfl (.keep rfl (.keep rfl .nil)))) (.keep rfl (.keep rfl .nil)) rfl (by rfl) ?_
   exact jq
 rcases o62 with j62 | j62
 · replace h := elim_l h
   refine aq_block_exit ?_
   refine aq_then ?_
   refine aw_seq ?_
   obtain ⟨o72, ho73, h⟩ := bind_some h
   refine aw_join (.normal) ⟨[(8, .d (.val (.bool o72)))], [], []⟩ ?_ ?_
   · replace h := ho73
     refine aw_rd ?_
     refine .v (f_move (by rfl)) rfl (.c rfl .nil) .nil ?_
     refine .v (f_move (by rfl)) rfl (.c rfl .nil) .nil ?_
     rcases Bool.eq_false_or_eq_true y1 with hc64 | hc64
     · replace h := ite_t hc64 h
       refine .gv (f_load (n := 0) (o := 10) (off := 0) (p := []) (c := .d (eGShard y8.1)) (z := .d (eGShard y8.1)) (by rfl) rfl ty74 (by rfl)) rfl rfl rfl hc64 (.c rfl .nil) (.cons rfl .nil) ?_
       obtain ⟨y65, hy66, h⟩ := bind_some h
       refine .gv (f_callP hgl (by rfl) en53 rfl (by rfl) (by rfl) (by rfl) (F53_shard_Count_ok hy66)) rfl rfl rfl hc64 (.c rfl .nil) .nil ?_
       refine .gv (f_move (by rfl)) rfl rfl rfl hc64 (.c rfl .nil) .nil ?_
       refine .gv (f_binI (by rfl) rfl (by rfl)) rfl rfl rfl hc64 (.c rfl (.c rfl .nil)) .nil ?_
       refine .gv (f_move (by rfl)) rfl rfl rfl hc64 (.c rfl .nil) .nil ?_
       rcases Bool.eq_false_or_eq_true (decide (y65 ≤ a1)) with hc67 | hc67
       · replace h := ite_t hc67 h
         refine .off rfl rfl rfl hc67 rfl (by rfl) ?_
         refine .off rfl rfl rfl hc67 rfl (by rfl) ?_
         refine .off rfl rfl rfl hc67 rfl (by rfl) ?_
         refine .off rfl rfl rfl hc67 rfl (by rfl) ?_
         refine .off rfl rfl rfl hc67 rfl (by rfl) ?_
         refine .gv (f_pick_true (by rfl) hc67) rfl rfl rfl hc64 (.c rfl (.c rfl .nil)) .nil ?_
         refine .v (f_pick_true (by rfl) hc64) rfl (.c rfl (.c rfl .nil)) .nil ?_
         refine .v (f_assign (by rfl)) rfl (.c rfl .nil) .nil ?_
         refine .nil (by kernel_rfl) ?_
         obtain rfl := Option.some.inj h
         refine aq_weak (s' := ⟨[(8, .d (.val (.bool true)))], [], []⟩) id hb0 (.keep rfl .nil) .nil rfl (by rfl) ?_
         exact jq
       replace h := ite_f hc67 h
       refine .gv (f_load (n := 0) (o := 4) (off := 0) (p := []) (c := .d (eGShard a0)) (z := .d (eGShard a0)) (by rfl) rfl ty74 (by rfl)) rfl rfl rfl hc67 (.c rfl .nil) (.cons rfl .nil) ?_
       obtain ⟨y68, hy69, h⟩ := bind_some h
       refine .gv (f_callP hgl (by rfl) en53 rfl (by rfl) (by rfl) (by rfl) (F53_shard_Count_ok hy69)) rfl rfl rfl hc67 (.c rfl .nil) .nil ?_
       refine .gv (f_load (n := 0) (o := 10) (off := 0) (p := []) (c := .d (eGShard y8.1)) (z := .d (eGShard y8.1)) (by rfl) rfl ty74 (by rfl)) rfl rfl rfl hc67 (.c rfl .nil) (.cons rfl .nil) ?_
       obtain ⟨y70, hy71, h⟩ := bind_some h
       refine .gv (f_callP hgl (by rfl) en53 rfl (by rfl) (by rfl) (by rfl) (F53_shard_Count_ok hy71)) rfl rfl rfl hc67 (.c rfl .nil) .nil ?_
       refine .gv (f_binI (by rfl) rfl (by rfl)) rfl rfl rfl hc67 (.c rfl (.c rfl .nil)) .nil ?_
       refine .gv (f_pick_false (by rfl) hc67) rfl rfl rfl hc64 (.c rfl (.c rfl .nil)) .nil ?_
       refine .v (f_pick_true (by rfl) hc64) rfl (.c rfl (.c rfl .nil)) .nil ?_
       refine .v (f_assign (by rfl)) rfl (.c rfl .nil) .nil ?_
       refine .nil (by kernel_rfl) ?_
       obtain rfl := Option.some.inj h
       refine aq_weak (s' := ⟨[(8, .d (.val (.bool (decide (y68 ≥ y70)))))], [], []⟩) id hb0 (.keep rfl .nil) .nil rfl (by rfl) ?_
       exact jq
     replace h := ite_f hc64 h
     refine .off rfl rfl rfl hc64 rfl (by rfl) ?_
     refine .off rfl rfl rfl hc64 rfl (by rfl) ?_
     refine .off rfl rfl rfl hc64 rfl (by rfl) ?_
     refine .off rfl rfl rfl hc64 rfl (by rfl) ?_
     refine .off rfl rfl rfl hc64 rfl (by rfl) ?_
     refine .offu rfl rfl rfl rfl (by rfl) ?_
     refine .offu rfl rfl rfl rfl (by rfl) ?_
     refine .offu rfl rfl rfl rfl (by rfl) ?_
     refine .offu rfl rfl rfl rfl (by rfl) ?_
     refine .offu rfl rfl rfl rfl (by rfl) ?_
     refine .off rfl rfl rfl hc64 rfl (by rfl) ?_
     refine .v (f_pick_false (by rfl) hc64) rfl (.c rfl (.c rfl .nil)) .nil ?_
     refine .v (f_assign (by rfl)) rfl (.c rfl .nil) .nil ?_
     refine .nil (by kernel_rfl) ?_
     obtain rfl := Option.some.inj h
     refine aq_weak (s' := ⟨[(8, .d (.val (.bool false)))], [], []⟩) id hb0 (.keep rfl .nil) .nil rfl (by rfl) ?_
     exact jq
   refine aq_then ?_
   refine aw_ret ?_
   obtain rfl := Option.some.inj h
   exact aq_finp hb0 rfl (.tmp rfl (by rfl) .nil) (by rfl) rfl ⟨rfl, rfl⟩
 replace h := elim_r h
 refine aq_block_ret ?_
 refine aq_then_ret ?_
 obtain rfl := Option.some.inj h
 exact aq_finp hb0 rfl (.tmp rfl (by rfl) .nil) (by rfl) rfl ⟨rfl, rfl⟩
end Go.Proofs.YtonfljoibcnlgaaDoor
