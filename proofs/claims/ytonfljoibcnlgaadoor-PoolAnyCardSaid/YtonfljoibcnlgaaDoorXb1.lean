/-
  PRINTED by wip/pr3.py: for each Go function a Lean function with the same answers, and the proof.
-/
import Derived.Test.YtonfljoibcnlgaaDoorXh
namespace Go.Proofs.YtonfljoibcnlgaaDoor
open Bd
set_option maxRecDepth 10000

@[reducible] def eA217 (x : (List (List Int))) : D := .arr 32 2 (x.map eA22)
structure Gshard_part where
  Shard : GShard
  deriving DecidableEq, Inhabited
@[reducible] def eGshard_part (x : Gshard_part) : D := .st [eGShard x.Shard]

theorem en96 : enterB Tryd.prog 96 = true := by kernel_rfl
theorem fl179_0 : fieldB Tryd.prog 179 0 = some (0, true, 32) := by kernel_rfl
theorem en174 : enterB Tryd.prog 174 = true := by kernel_rfl
theorem fl179_1 : fieldB Tryd.prog 179 1 = some (32, false, 1) := by kernel_rfl
theorem en165 : enterB Tryd.prog 165 = true := by kernel_rfl
theorem uda217 : Tryd.prog.underlying 217 = some (.array 2 23) := by kernel_rfl
theorem en154 : enterB Tryd.prog 154 = true := by kernel_rfl
theorem pl217_1 : placeB Tryd.prog 217 1 = some (32, 32) := by kernel_rfl
theorem pl217_0 : placeB Tryd.prog 217 0 = some (0, 32) := by kernel_rfl
theorem zr217 : ∃ zv, zeroB Tryd.prog 217 = some zv ∧ ∀ F μ w, RA F μ w (.d (eA217 (List.replicate 2 (List.replicate 32 (0 : Int))))) zv.cells.toList := zero_mk' (by kernel_rfl) (by kernel_rfl)
theorem ag217 : aggB Tryd.prog 217 = true := by kernel_rfl
theorem en166 : enterB Tryd.prog 166 = true := by kernel_rfl
theorem en164 : enterB Tryd.prog 164 = true := by kernel_rfl
theorem zrd179 : ∃ zv, zeroB Tryd.prog 179 = some zv ∧ ∀ F μ w, RA F μ w (.d (.st [(eA22 (List.replicate 32 (0 : Int))), (.val (.slice none 0 0))])) zv.cells.toList := zero_mk' (by kernel_rfl) (by kernel_rfl)
theorem en153 : enterB Tryd.prog 153 = true := by kernel_rfl
theorem en168 : enterB Tryd.prog 168 = true := by kernel_rfl
theorem en157 : enterB Tryd.prog 157 = true := by kernel_rfl
theorem en129 : enterB Tryd.prog 129 = true := by kernel_rfl
theorem en18 : enterB Tryd.prog 18 = true := by kernel_rfl
theorem en23 : enterB Tryd.prog 23 = true := by kernel_rfl
theorem en80 : enterB Tryd.prog 80 = true := by kernel_rfl
theorem en112 : enterB Tryd.prog 112 = true := by kernel_rfl
theorem en79 : enterB Tryd.prog 79 = true := by kernel_rfl
theorem en52 : enterB Tryd.prog 52 = true := by kernel_rfl
theorem ty29 : tyB Tryd.prog 29 = some (false, 1) := by kernel_rfl
theorem zr95 : ∃ zv, zeroB Tryd.prog 95 = some zv ∧ ∀ F μ w, RA F μ w (.d (eGAccount (⟨(0 : Int), (0 : Int)⟩ : GAccount))) zv.cells.toList := zero_mk' (by kernel_rfl) (by kernel_rfl)
theorem ag95 : aggB Tryd.prog 95 = true := by kernel_rfl
theorem ty95 : tyB Tryd.prog 95 = some (true, 2) := by kernel_rfl
theorem eq_eGAccount (a b : GAccount) : D.eqB (eGAccount a) (eGAccount b) = decide (a = b) := by
  show (D.eqB (eI_u64 a.Nonce) (eI_u64 b.Nonce) && (D.eqB (eI_u64 a.Balance) (eI_u64 b.Balance) && true)) = _
  rw [eq_eI_u64, eq_eI_u64]
  cases a; cases b; simp only [Bool.and_true, GAccount.mk.injEq, Bool.decide_and]
theorem udst95 : Tryd.prog.underlying 95 = some (.struct (Tryd.prog.fieldsOf 95)) := by kernel_rfl
theorem sih95 : Tryd.prog.stoodInHeld 95 = false := by kernel_rfl
theorem fq95 : fieldsQ Tryd.prog 95 = [(27, 0, false), (27, 1, false)] := by kernel_rfl
theorem fit95 {d : Nat} (a : GAccount) : Fits Tryd.prog (d + 2) 95 (eGAccount a) := fits_st udst95 sih95 fq95 ⟨rfl, rfl, ty27, fit27 _, ⟨rfl, rfl, ty27, fit27 _, trivial⟩⟩
theorem gd95 : Tryd.prog.eqGuardType Tryd.prog.depth 95 = false := by kernel_rfl
theorem en133 : enterB Tryd.prog 133 = true := by kernel_rfl
theorem fl95_1 : fieldB Tryd.prog 95 1 = some (1, false, 1) := by kernel_rfl
theorem en132 : enterB Tryd.prog 132 = true := by kernel_rfl
theorem fl95_0 : fieldB Tryd.prog 95 0 = some (0, false, 1) := by kernel_rfl
theorem en104 : enterB Tryd.prog 104 = true := by kernel_rfl
theorem en135 : enterB Tryd.prog 135 = true := by kernel_rfl
theorem en134 : enterB Tryd.prog 134 = true := by kernel_rfl
theorem en105 : enterB Tryd.prog 105 = true := by kernel_rfl
theorem zr29 : ∃ zv, zeroB Tryd.prog 29 = some zv ∧ ∀ F μ w, RA F μ w (.d (eI_i64 (0 : Int))) zv.cells.toList := zero_mk' (by kernel_rfl) (by kernel_rfl)
theorem en67 : enterB Tryd.prog 67 = true := by kernel_rfl
theorem en28 : enterB Tryd.prog 28 = true := by kernel_rfl
theorem en130 : enterB Tryd.prog 130 = true := by kernel_rfl
theorem en103 : enterB Tryd.prog 103 = true := by kernel_rfl
theorem pl26_1 : placeB Tryd.prog 26 1 = some (32, 1) := by kernel_rfl
theorem pl26_0 : placeB Tryd.prog 26 0 = some (0, 32) := by kernel_rfl
theorem ag26 : aggB Tryd.prog 26 = true := by kernel_rfl
theorem en76 : enterB Tryd.prog 76 = true := by kernel_rfl
theorem en47 : enterB Tryd.prog 47 = true := by kernel_rfl
theorem pl74_0 : placeB Tryd.prog 74 0 = some (0, 1) := by kernel_rfl
theorem ag74 : aggB Tryd.prog 74 = true := by kernel_rfl
theorem en100 : enterB Tryd.prog 100 = true := by kernel_rfl
theorem en147 : enterB Tryd.prog 147 = true := by kernel_rfl
theorem fl132_0 : fieldB Tryd.prog 132 0 = some (0, true, 1) := by kernel_rfl
theorem en119 : enterB Tryd.prog 119 = true := by kernel_rfl
theorem pl24_0 : placeB Tryd.prog 24 0 = some (0, 99) := by kernel_rfl
theorem zel24 : zelB Tryd.prog 24 = some (D.cells (.st [(eA22 (List.replicate 32 (0 : Int))), (eA22 (List.replicate 32 (0 : Int))), (.val (.int .u64 (0 : Int))), (.val (.int .u64 (0 : Int))), (.val (.int .u64 (0 : Int))), (eA22 (List.replicate 32 (0 : Int)))])) := by kernel_rfl
theorem en83 : enterB Tryd.prog 83 = true := by kernel_rfl
theorem en75 : enterB Tryd.prog 75 = true := by kernel_rfl
theorem en74 : enterB Tryd.prog 74 = true := by kernel_rfl
theorem ty130 : tyB Tryd.prog 130 = some (false, 1) := by kernel_rfl
theorem en120 : enterB Tryd.prog 120 = true := by kernel_rfl
theorem en121 : enterB Tryd.prog 121 = true := by kernel_rfl
theorem en122 : enterB Tryd.prog 122 = true := by kernel_rfl
theorem pl72_0 : placeB Tryd.prog 72 0 = some (0, 33) := by kernel_rfl
theorem zel72 : zelB Tryd.prog 72 = some (D.cells (.st [(eA22 (List.replicate 32 (0 : Int))), (.val (.slice none 0 0))])) := by kernel_rfl
theorem en95 : enterB Tryd.prog 95 = true := by kernel_rfl
theorem en94 : enterB Tryd.prog 94 = true := by kernel_rfl
theorem en34 : enterB Tryd.prog 34 = true := by kernel_rfl
theorem en93 : enterB Tryd.prog 93 = true := by kernel_rfl
theorem pl132_0 : placeB Tryd.prog 132 0 = some (0, 1) := by kernel_rfl
theorem zrv132 : ∃ zv, zeroB Tryd.prog 132 = some zv ∧ ∀ F μ w, RA F μ w (.st [.st [.d (.val (.slice none 0 0))]]) zv.cells.toList := zero_stN (z := .st [.st [(.val (.slice none 0 0))]]) (zero_mk' (by kernel_rfl) (by kernel_rfl)) (.st (.cons (.st (.cons (.same _) .nil)) .nil))
theorem ag132 : aggB Tryd.prog 132 = true := by kernel_rfl
theorem en61 : enterB Tryd.prog 61 = true := by kernel_rfl
theorem en50 : enterB Tryd.prog 50 = true := by kernel_rfl
theorem pl41_0 : placeB Tryd.prog 41 0 = some (0, 1) := by kernel_rfl
theorem zel41 : zelB Tryd.prog 41 = some (D.cells (.st [(.val (.slice none 0 0))])) := by kernel_rfl
theorem en33 : enterB Tryd.prog 33 = true := by kernel_rfl
theorem en108 : enterB Tryd.prog 108 = true := by kernel_rfl
theorem en107 : enterB Tryd.prog 107 = true := by kernel_rfl
theorem en64 : enterB Tryd.prog 64 = true := by kernel_rfl
theorem en106 : enterB Tryd.prog 106 = true := by kernel_rfl
theorem en30 : enterB Tryd.prog 30 = true := by kernel_rfl
theorem en68 : enterB Tryd.prog 68 = true := by kernel_rfl
theorem zrv90 : ∃ zv, zeroB Tryd.prog 90 = some zv ∧ ∀ F μ w, RA F μ w (.st [.d (.val (.slice none 0 0)), .d (.val (.int .i64 (0 : Int)))]) zv.cells.toList := zero_st (ds := [(.val (.slice none 0 0)), (.val (.int .i64 (0 : Int)))]) (zero_mk' (by kernel_rfl) (by kernel_rfl))
theorem ag90 : aggB Tryd.prog 90 = true := by kernel_rfl
theorem en37 : enterB Tryd.prog 37 = true := by kernel_rfl
theorem pl36_4 : placeB Tryd.prog 36 4 = some (66, 1) := by kernel_rfl
theorem ag36 : aggB Tryd.prog 36 = true := by kernel_rfl
theorem en25 : enterB Tryd.prog 25 = true := by kernel_rfl
theorem pl23_31 : placeB Tryd.prog 23 31 = some (31, 1) := by kernel_rfl
theorem en62 : enterB Tryd.prog 62 = true := by kernel_rfl
theorem en20 : enterB Tryd.prog 20 = true := by kernel_rfl
theorem en69 : enterB Tryd.prog 69 = true := by kernel_rfl
theorem en66 : enterB Tryd.prog 66 = true := by kernel_rfl

/- 164: beadroll/pairs.Check -/
def F164_pairs_Check_s0 (n : Nat) (a0 : (List GPair)) (z0_0 : Int) : Option ((Int) ⊕ ((Unit) ⊕ (Unit))) :=
  (if (decide (z0_0 < ((a0).length : Int))) = true then ((rd a0 z0_0).bind fun (x3 : GPair) => ((((F174_pairs_value n x3.Value).bind fun (y6 : Bool) => (if (!y6) = true then some true else (if (decide (z0_0 > (0 : Int))) = true then ((rd a0 (IntKind.i64.wrap (z0_0 - (1 : Int)))).bind fun (x10 : GPair) => ((F96_path_Ahead n x10.Key x3.Key).bind fun (y13 : Bool) => some (!y13))) else some false)))).bind fun (o15 : Bool) => (if o15 = true then some (.inr (.inr ())) else some (.inl (IntKind.i64.wrap (z0_0 + (1 : Int))))))) else some (.inr (.inl ())))
def F164_pairs_Check (n : Nat) (a0 : (List GPair)) : Option (Int) :=
  (if (decide (((a0).length : Int) > (512 : Int))) = true then some (8 : Int) else ((loopF (fun (z : Int) => F164_pairs_Check_s0 n a0 z) n (0 : Int)).bind (Sum.elim (fun (j18 : Unit) => some (0 : Int)) (fun (j18 : Unit) => some (8 : Int)))))
theorem F164_pairs_Check_ok {n : Nat} {a0 : (List GPair)} {r : Int} (h : F164_pairs_Check n a0 = some r) :
    ACall Tryd.prog GS 164 [.d (eL175 a0)] [] (fun r' hp' => r' = .d (.val (.int .i64 r)) ∧ hp' = []) := by
 refine acall_of_body mixed Tryd.func164 rfl (by rfl) ?_
 intro C hro hgl hb0
 unfold F164_pairs_Check at h
 refine aw_rs ?_
 refine .a rfl ?_
 refine .nil (aq_then ?_)
 refine aw_seq ?_
 refine aw_rs ?_
 refine .m rfl ?_
 refine .v (f_lenD (n := (a0).length) (by rfl) sl175 rfl (by simp)) rfl (.c rfl .nil) .nil ?_
 refine .b rfl rfl rfl ?_
 refine .nil (aq_then ?_)
 refine aw_cond rfl (fun hc1 => ?_) (fun hc1 => ?_)
 ·replace h := ite_t hc1 h
  refine aw_rs ?_
  refine .a rfl ?_
  refine .nil (aq_then ?_)
  refine aw_ret ?_
  refine aq_then_ret ?_
  obtain rfl := Option.some.inj h
  exact aq_finp hb0 rfl (.tmp rfl (by rfl) .nil) (by rfl) rfl ⟨rfl, rfl⟩
 replace h := ite_f hc1 h
 refine aw_skip ?_
 refine aq_then ?_
 refine aw_seq ?_
 refine aw_rs ?_
 refine .m rfl ?_
 refine .v (f_lenD (n := (a0).length) (by rfl) sl175 rfl (by simp)) rfl (.c rfl .nil) .nil ?_
 refine .m rfl ?_
 refine .nil (aq_then ?_)
 refine aw_block ?_
 refine aw_weak (s' := ⟨[(0, .d (eL175 a0)), (8, .d (eL175 a0)), (9, .d (.val (.int .i64 ((a0).length : Int)))), (10, .d (.val (.int .i64 (0 : Int))))], [], []⟩) id hb0 (.keep rfl (.keep rfl (.keep rfl (.keep rfl .nil)))) .nil rfl (by rfl) ?_
 obtain ⟨o18, ho19, h⟩ := bind_some h
 refine aw_loopX (σ := Int) (fun z => ⟨[(0, .d (eL175 a0)), (8, .d (eL175 a0)), (9, .d (.val (.int .i64 ((a0).length : Int)))), (10, .d (.val (.int .i64 z)))], [], []⟩) (Sum.elim (fun _ => .exit 0) (fun _ => .ret)) (Sum.elim (fun j18 => ⟨[], [], []⟩) (fun j18 => ⟨[(2, .d (.val (.int .i64 (8 : Int))))], [], []⟩)) ho19 (by intro b; rcases b with _ | _ <;> rfl) ?_ ?_
 ·clear h ho19
  intro z0_0 o h
  change F164_pairs_Check_s0 n a0 z0_0 = some o at h
  unfold F164_pairs_Check_s0 at h
  show AW _ _ _ ⟨[(0, .d (eL175 a0)), (8, .d (eL175 a0)), (9, .d (.val (.int .i64 ((a0).length : Int)))), (10, .d (.val (.int .i64 z0_0)))], [], []⟩
  refine aw_rs ?_
  refine .b rfl rfl rfl ?_
  refine .nil (aq_then ?_)
  refine aw_seq ?_
  refine aw_cond rfl (fun hc2 => ?_) (fun hc2 => ?_)
  ·replace h := ite_t hc2 h
   refine aw_skip ?_
   refine aq_then ?_
   refine aw_seq ?_
   refine aw_block ?_
   refine aw_rs ?_
   refine .m rfl ?_
   obtain ⟨x3, hx4, h⟩ := bind_some h
   obtain ⟨hx5, hx4⟩ := rd_some hx4
   refine .v (f_indexS (by rfl) sl175 hx5 (rd_map _ hx4)) rfl (.c rfl (.c rfl .nil)) .nil ?_
   refine .v (f_loadR (z := (eGPair x3)) (by rfl) ty179) rfl (.c rfl .nil) .nil ?_
   refine .n (f_alloc 4 (by rfl) zrv179) rfl .nil rfl ?_
   refine .a rfl ?_
   refine .s (f_store (n := 0) (o := 4) (off := 0) (p := []) (c := .st [.d (eA22 (List.replicate 32 (0 : Int))), .d (.val (.slice none 0 0))]) (old := .st [.d (eA22 (List.replicate 32 (0 : Int))), .d (.val (.slice none 0 0))]) (z := .d (eGPair x3)) (c' := .d (eGPair x3)) rfl rfl (by rfl) ty179 (by rfl)) rfl (.c rfl (.c rfl .nil)) (.cons rfl .nil) ?_
   refine .nil (aq_then ?_)
   refine aw_seq ?_
   obtain ⟨o15, ho17, h⟩ := bind_some h
   refine aw_join (.normal) ⟨[(0, .d (eL175 a0)), (8, .d (eL175 a0)), (9, .d (.val (.int .i64 ((a0).length : Int)))), (10, .d (.val (.int .i64 z0_0))), (34, .d (.val (.bool o15)))], [], []⟩ ?_ ?_
   ·replace h := ho17
    refine aw_rd ?_
    refine .v (f_fieldAddr (n := 32) (by rfl) fl179_1 (by decide)) rfl (.c rfl .nil) .nil ?_
    refine .v (f_load (n := 0) (o := 4) (off := (0 + 32)) (p := [1]) (c := .d (eGPair x3)) (z := .d (eL139 x3.Value)) (by rfl) rfl ty139 (by rfl)) rfl (.c rfl .nil) (.cons rfl .nil) ?_
    obtain ⟨y6, hy7, h⟩ := bind_some h
    refine .v (f_callP hgl (by rfl) en174 rfl (by rfl) (by rfl) (by rfl) (F174_pairs_value_ok hy7)) rfl (.c rfl .nil) .nil ?_
    refine .v (f_not (by rfl)) rfl (.c rfl .nil) .nil ?_
    refine .v (f_move (by rfl)) rfl (.c rfl .nil) .nil ?_
    rcases Bool.eq_false_or_eq_true (!y6) with hc8 | hc8
    ·replace h := ite_t hc8 h
     refine .off rfl rfl rfl hc8 rfl (by rfl) ?_
     refine .off rfl rfl rfl hc8 rfl (by rfl) ?_
     refine .off rfl rfl rfl hc8 rfl (by rfl) ?_
     refine .offu rfl rfl rfl rfl (by rfl) ?_
     refine .offu rfl rfl rfl rfl (by rfl) ?_
     refine .offu rfl rfl rfl rfl (by rfl) ?_
     refine .offu rfl rfl rfl rfl (by rfl) ?_
     refine .offu rfl rfl rfl rfl (by rfl) ?_
     refine .offu rfl rfl rfl rfl (by rfl) ?_
     refine .offu rfl rfl rfl rfl (by rfl) ?_
     refine .offu rfl rfl rfl rfl (by rfl) ?_
     refine .offu rfl rfl rfl rfl (by rfl) ?_
     refine .offu rfl rfl rfl rfl (by rfl) ?_
     refine .off rfl rfl rfl hc8 rfl (by rfl) ?_
     refine .v (f_pick_true (by rfl) hc8) rfl (.c rfl (.c rfl .nil)) .nil ?_
     refine .nil (by kernel_rfl) ?_
     obtain rfl := Option.some.inj h
     refine aq_weak (s' := ⟨[(0, .d (eL175 a0)), (8, .d (eL175 a0)), (9, .d (.val (.int .i64 ((a0).length : Int)))), (10, .d (.val (.int .i64 z0_0))), (34, .d (.val (.bool true)))], [], []⟩) id hb0 (.keep rfl (.keep rfl (.keep rfl (.keep rfl (.keep rfl .nil))))) .nil rfl (by rfl) ?_
     exact jq
    replace h := ite_f hc8 h
    refine .gv (f_move (by rfl)) rfl rfl rfl hc8 (.c rfl .nil) .nil ?_
    refine .gv (f_binI (by rfl) rfl (by rfl)) rfl rfl rfl hc8 (.c rfl (.c rfl .nil)) .nil ?_
    refine .gv (f_move (by rfl)) rfl rfl rfl hc8 (.c rfl .nil) .nil ?_
    rcases Bool.eq_false_or_eq_true (decide (z0_0 > (0 : Int))) with hc9 | hc9
    ·replace h := ite_t hc9 h
     refine .gv (f_move (by rfl)) rfl rfl rfl hc9 (.c rfl .nil) .nil ?_
     refine .gv (f_move (by rfl)) rfl rfl rfl hc9 (.c rfl .nil) .nil ?_
     refine .gv (f_binI (by rfl) rfl (by rfl)) rfl rfl rfl hc9 (.c rfl (.c rfl .nil)) .nil ?_
     obtain ⟨x10, hx11, h⟩ := bind_some h
     obtain ⟨hx12, hx11⟩ := rd_some hx11
     refine .gv (f_indexS (by rfl) sl175 hx12 (rd_map _ hx11)) rfl rfl rfl hc9 (.c rfl (.c rfl .nil)) .nil ?_
     refine .gv (f_fieldAddrR (by rfl) fl179_0 (by decide) rfl) rfl rfl rfl hc9 (.c rfl .nil) .nil ?_
     refine .gv (f_loadR (z := (eA22 x10.Key)) (by rfl) ty23) rfl rfl rfl hc9 (.c rfl .nil) .nil ?_
     refine .gv (f_fieldAddr (n := 0) (by rfl) fl179_0 (by decide)) rfl rfl rfl hc9 (.c rfl .nil) .nil ?_
     refine .gv (f_load (n := 0) (o := 4) (off := (0 + 0)) (p := [0]) (c := .d (eGPair x3)) (z := .d (eA22 x3.Key)) (by rfl) rfl ty23 (by rfl)) rfl rfl rfl hc9 (.c rfl .nil) (.cons rfl .nil) ?_
     obtain ⟨y13, hy14, h⟩ := bind_some h
     refine .gv (f_callP hgl (by rfl) en96 rfl (by rfl) (by rfl) (by rfl) (F96_path_Ahead_ok hy14)) rfl rfl rfl hc9 (.c rfl (.c rfl .nil)) .nil ?_
     refine .gv (f_not (by rfl)) rfl rfl rfl hc9 (.c rfl .nil) .nil ?_
     refine .gv (f_pick_true (by rfl) hc9) rfl rfl rfl hc8 (.c rfl (.c rfl .nil)) .nil ?_
     refine .v (f_pick_false (by rfl) hc8) rfl (.c rfl (.c rfl .nil)) .nil ?_
     refine .nil (by kernel_rfl) ?_
     obtain rfl := Option.some.inj h
     refine aq_weak (s' := ⟨[(0, .d (eL175 a0)), (8, .d (eL175 a0)), (9, .d (.val (.int .i64 ((a0).length : Int)))), (10, .d (.val (.int .i64 z0_0))), (34, .d (.val (.bool (!y13))))], [], []⟩) id hb0 (.keep rfl (.keep rfl (.keep rfl (.keep rfl (.keep rfl .nil))))) .nil rfl (by rfl) ?_
     exact jq
    replace h := ite_f hc9 h
    refine .off rfl rfl rfl hc9 rfl (by rfl) ?_
    refine .off rfl rfl rfl hc9 rfl (by rfl) ?_
    refine .off rfl rfl rfl hc9 rfl (by rfl) ?_
    refine .off rfl rfl rfl hc9 rfl (by rfl) ?_
    refine .off rfl rfl rfl hc9 rfl (by rfl) ?_
    refine .off rfl rfl rfl hc9 rfl (by rfl) ?_
    refine .off rfl rfl rfl hc9 rfl (by rfl) ?_
    refine .off rfl rfl rfl hc9 rfl (by rfl) ?_
    refine .off rfl rfl rfl hc9 rfl (by rfl) ?_
    refine .off rfl rfl rfl hc9 rfl (by rfl) ?_
    refine .gv (f_pick_false (by rfl) hc9) rfl rfl rfl hc8 (.c rfl (.c rfl .nil)) .nil ?_
    refine .v (f_pick_false (by rfl) hc8) rfl (.c rfl (.c rfl .nil)) .nil ?_
    refine .nil (by kernel_rfl) ?_
    obtain rfl := Option.some.inj h
    refine aq_weak (s' := ⟨[(0, .d (eL175 a0)), (8, .d (eL175 a0)), (9, .d (.val (.int .i64 ((a0).length : Int)))), (10, .d (.val (.int .i64 z0_0))), (34, .d (.val (.bool false)))], [], []⟩) id hb0 (.keep rfl (.keep rfl (.keep rfl (.keep rfl (.keep rfl .nil))))) .nil rfl (by rfl) ?_
    exact jq
   refine aq_then ?_
   refine aw_cond rfl (fun hc16 => ?_) (fun hc16 => ?_)
   ·replace h := ite_t hc16 h
    refine aw_rs ?_
    refine .a rfl ?_
    refine .nil (aq_then ?_)
    refine aw_ret ?_
    refine aq_block_ret ?_
    refine aq_then_ret ?_
    obtain rfl := Option.some.inj h
    refine aq_weak (s' := ⟨[(2, .d (.val (.int .i64 (8 : Int))))], [], []⟩) id hb0 (.keep rfl .nil) .nil rfl (by rfl) ?_
    exact jq
   replace h := ite_f hc16 h
   refine aw_skip ?_
   refine aq_block ?_
   refine aq_then ?_
   refine aw_r ?_
   refine .b rfl rfl rfl ?_
   refine .m rfl ?_
   refine .nil ?_
   obtain rfl := Option.some.inj h
   refine aq_weak (s' := ⟨[(0, .d (eL175 a0)), (8, .d (eL175 a0)), (9, .d (.val (.int .i64 ((a0).length : Int)))), (10, .d (.val (.int .i64 (IntKind.i64.wrap (z0_0 + (1 : Int))))))], [], []⟩) id hb0 (.keep rfl (.keep rfl (.keep rfl (.keep rfl .nil)))) .nil rfl (by rfl) ?_
   exact jq
  replace h := ite_f hc2 h
  refine aw_exit ?_
  refine aq_then_exit ?_
  obtain rfl := Option.some.inj h
  refine aq_weak (s' := ⟨[], [], []⟩) id hb0 .nil .nil rfl (by rfl) ?_
  exact jq
 rcases o18 with j18 | j18
 ·replace h := elim_l h
  refine aq_block_exit ?_
  refine aq_then ?_
  refine aw_rs ?_
  refine .a rfl ?_
  refine .nil (aq_then ?_)
  refine aw_ret ?_
  obtain rfl := Option.some.inj h
  exact aq_finp hb0 rfl (.tmp rfl (by rfl) .nil) (by rfl) rfl ⟨rfl, rfl⟩
 replace h := elim_r h
 refine aq_block_ret ?_
 refine aq_then_ret ?_
 obtain rfl := Option.some.inj h
 exact aq_finp hb0 rfl (.tmp rfl (by rfl) .nil) (by rfl) rfl ⟨rfl, rfl⟩

/- 154: beadroll/tree.right -/
def F154_tree_right : Nat → GTree → Int → Int → (List Int) →  Option (Bool × Bool)
  | 0, _, _, _, _ => none
  | n + 1, a0, a1, a2, a3 =>
  (if (a1 == (0 : Int)) = true then some (true, false) else ((rd a0.Nodes (IntKind.i64.wrap (a1 - (1 : Int)))).bind fun (x2 : GNode) => (if x2.Leaf = true then ((F165_path_Shared n x2.Key a3).bind fun (y6 : Int) => some ((decide (y6 ≥ a2)), false)) else (if (a2 == (256 : Int)) = true then some (false, false) else ((F166_path_Turn n a3 a2).bind fun (y9 : (List Int) × Int) => ((loopF (fun (z : Bool × Int × Int) => (fun (z0_0 : Bool) (z0_1 : Int) (z0_2 : Int) => ((if (decide (z0_2 < (2 : Int))) = true then ((rd ([a3, y9.1] : List (List Int)) z0_2).bind fun (x12 : (List Int)) => ((F155_tree_roads n x2).bind fun (y15 : (List Int)) => ((rd y15 z0_2).bind fun (x17 : Int) => ((F154_tree_right n a0 x17 (IntKind.i64.wrap (a2 + (1 : Int))) x12).bind fun (y20 : Bool × Bool) => (if (!y20.1) = true then some (.inr (.inr ())) else (if (decide (x17 > (0 : Int))) = true then (((if z0_0 = true then some true else some y20.2)).bind fun (o25 : Bool) => some (.inl (o25, (IntKind.i64.wrap (z0_1 + (1 : Int))), (IntKind.i64.wrap (z0_2 + (1 : Int)))))) else (((if z0_0 = true then some true else some y20.2)).bind fun (o28 : Bool) => some (.inl (o28, z0_1, (IntKind.i64.wrap (z0_2 + (1 : Int)))))))))))) else some (.inr (.inl (z0_0, z0_1)))) : Option ((Bool × Int × Int) ⊕ ((Bool × Int) ⊕ (Unit))))) z.1 z.2.1 z.2.2) n (false, (0 : Int), (0 : Int))).bind (Sum.elim (fun (j30 : Bool × Int) => (((if j30.1 = true then some true else some (j30.2 == (2 : Int)))).bind fun (o33 : Bool) => some (o33, o33))) (fun (j30 : Unit) => some (false, false)))))))))
theorem F154_tree_right_rec (n : Nat) : ∀ (a0 : GTree) (a1 : Int) (a2 : Int) (a3 : (List Int)) (r : Bool × Bool), F154_tree_right n a0 a1 a2 a3 = some r →
    ACall Tryd.prog GS 154 [.d (eGTree a0), .d (.val (.int .i64 a1)), .d (.val (.int .i64 a2)), .d (eA22 a3)] [] (fun r' hp' => r' = .res [.d (.val (.bool r.1)), .d (.val (.bool r.2))] ∧ hp' = []) := by
 induction n with
 | zero => intro a0 a1 a2 a3 r h; simp only [F154_tree_right] at h; cases h
 | succ n ih =>
  intro a0 a1 a2 a3 r h
  refine acall_of_body mixed Tryd.func154 rfl (by rfl) ?_
  intro C hro hgl hb0
  simp only [F154_tree_right] at h
  refine aw_rs ?_
  refine .n (f_box 4 (by rfl) (by rfl)) rfl (.c rfl .nil) rfl ?_
  refine .n (f_box 7 (by rfl) (by rfl)) rfl (.c rfl .nil) rfl ?_
  refine .a rfl ?_
  refine .a rfl ?_
  refine .nil (aq_then ?_)
  refine aw_seq ?_
  refine aw_rs ?_
  refine .m rfl ?_
  refine .b rfl rfl rfl ?_
  refine .nil (aq_then ?_)
  refine aw_cond rfl (fun hc1 => ?_) (fun hc1 => ?_)
  ·replace h := ite_t hc1 h
   refine aw_rs ?_
   refine .a rfl ?_
   refine .a rfl ?_
   refine .nil (aq_then ?_)
   refine aw_ret ?_
   refine aq_then_ret ?_
   obtain rfl := Option.some.inj h
   exact aq_finp hb0 rfl (.tmp rfl (by rfl) (.tmp rfl (by rfl) .nil)) (by rfl) rfl ⟨rfl, rfl⟩
  replace h := ite_f hc1 h
  refine aw_skip ?_
  refine aq_then ?_
  refine aw_rs ?_
  refine .v (f_fieldAddr (n := 0) (by rfl) fl90_0 (by decide)) rfl (.c rfl .nil) .nil ?_
  refine .l 4 (0 + 0) [0] (.d (eGTree a0)) (.d (eL88 a0.Nodes)) ty88 ?_
  refine .m rfl ?_
  refine .b rfl rfl rfl ?_
  obtain ⟨x2, hx3, h⟩ := bind_some h
  obtain ⟨hx4, hx3⟩ := rd_some hx3
  refine .v (f_indexS (by rfl) sl88 hx4 (rd_map _ hx3)) rfl (.c rfl (.c rfl .nil)) .nil ?_
  refine .v (f_loadR (z := (eGNode x2)) (by rfl) ty141) rfl (.c rfl .nil) .nil ?_
  refine .n (f_alloc 10 (by rfl) zrv141) rfl .nil rfl ?_
  refine .s (f_store (n := 0) (o := 10) (off := 0) (p := []) (c := .st [.d (.val (.bool false)), .d (eA22 (List.replicate 32 (0 : Int))), .d (.val (.slice none 0 0)), .d (.val (.int .i64 (0 : Int))), .d (.val (.int .i64 (0 : Int)))]) (old := .st [.d (.val (.bool false)), .d (eA22 (List.replicate 32 (0 : Int))), .d (.val (.slice none 0 0)), .d (.val (.int .i64 (0 : Int))), .d (.val (.int .i64 (0 : Int)))]) (z := .d (eGNode x2)) (c' := .d (eGNode x2)) rfl rfl (by rfl) ty141 (by rfl)) rfl (.c rfl (.c rfl .nil)) (.cons rfl .nil) ?_
  refine .nil (aq_then ?_)
  refine aw_seq ?_
  refine aw_rs ?_
  refine .v (f_fieldAddr (n := 0) (by rfl) fl141_0 (by decide)) rfl (.c rfl .nil) .nil ?_
  refine .l 10 (0 + 0) [0] (.d (eGNode x2)) (.d (.val (.bool x2.Leaf))) ty4 ?_
  refine .nil (aq_then ?_)
  refine aw_cond rfl (fun hc5 => ?_) (fun hc5 => ?_)
  ·replace h := ite_t hc5 h
   refine aw_rs ?_
   refine .v (f_fieldAddr (n := 1) (by rfl) fl141_1 (by decide)) rfl (.c rfl .nil) .nil ?_
   refine .l 10 (0 + 1) [1] (.d (eGNode x2)) (.d (eA22 x2.Key)) ty23 ?_
   refine .l 7 0 [] (.d (eA22 a3)) (.d (eA22 a3)) ty23 ?_
   obtain ⟨y6, hy7, h⟩ := bind_some h
   refine .v (f_callP hgl (by rfl) en165 rfl (by rfl) (by rfl) (by rfl) (F165_path_Shared_ok hy7)) rfl (.c rfl (.c rfl .nil)) .nil ?_
   refine .m rfl ?_
   refine .b rfl rfl rfl ?_
   refine .a rfl ?_
   refine .a rfl ?_
   refine .nil (aq_then ?_)
   refine aw_ret ?_
   refine aq_then_ret ?_
   obtain rfl := Option.some.inj h
   exact aq_finp hb0 rfl (.tmp rfl (by rfl) (.tmp rfl (by rfl) .nil)) (by rfl) rfl ⟨rfl, rfl⟩
  replace h := ite_f hc5 h
  refine aw_skip ?_
  refine aq_then ?_
  refine aw_seq ?_
  refine aw_rs ?_
  refine .m rfl ?_
  refine .b rfl rfl rfl ?_
  refine .nil (aq_then ?_)
  refine aw_cond rfl (fun hc8 => ?_) (fun hc8 => ?_)
  ·replace h := ite_t hc8 h
   refine aw_rs ?_
   refine .a rfl ?_
   refine .a rfl ?_
   refine .nil (aq_then ?_)
   refine aw_ret ?_
   refine aq_then_ret ?_
   obtain rfl := Option.some.inj h
   exact aq_finp hb0 rfl (.tmp rfl (by rfl) (.tmp rfl (by rfl) .nil)) (by rfl) rfl ⟨rfl, rfl⟩
  replace h := ite_f hc8 h
  refine aw_skip ?_
  refine aq_then ?_
  refine aw_rs ?_
  refine .l 7 0 [] (.d (eA22 a3)) (.d (eA22 a3)) ty23 ?_
  refine .m rfl ?_
  obtain ⟨y9, hy10, h⟩ := bind_some h
  refine .v (f_callP hgl (by rfl) en166 rfl (by rfl) (by rfl) (by rfl) (F166_path_Turn_ok hy10)) rfl (.c rfl (.c rfl .nil)) .nil ?_
  refine .m rfl ?_
  refine .v (f_extract (by rfl) rfl) rfl (.c rfl .nil) .nil ?_
  refine .v (f_extract (by rfl) rfl) rfl (.c rfl .nil) .nil ?_
  refine .n (f_alloc 11 (by rfl) zr23) rfl .nil rfl ?_
  refine .s (f_store (n := 0) (o := 11) (off := 0) (p := []) (c := .d (eA22 (List.replicate 32 (0 : Int)))) (old := .d (eA22 (List.replicate 32 (0 : Int)))) (z := .d (eA22 y9.1)) (c' := .d (eA22 y9.1)) rfl rfl (by rfl) ty23 (by rfl)) rfl (.c rfl (.c rfl .nil)) (.cons rfl .nil) ?_
  refine .a rfl ?_
  refine .z ?_
  refine .a rfl ?_
  refine .nil (aq_then ?_)
  refine aw_seq ?_
  refine aw_rs ?_
  refine .l 7 0 [] (.d (eA22 a3)) (.d (eA22 a3)) ty23 ?_
  refine .l 11 0 [] (.d (eA22 y9.1)) (.d (eA22 y9.1)) ty23 ?_
  refine .v (f_build (xs := [(0, .d (eA22 a3)), (1, .d (eA22 y9.1))]) (z' := .d (eA217 ([a3, y9.1] : List (List Int)))) (by rfl) zr217 ag217 rfl (by rfl) ⟨_, _, _, rfl, pl217_0, rfl, rfl, ⟨_, _, _, rfl, pl217_1, rfl, rfl, trivial⟩⟩ (by rfl) (by rfl)) rfl (.c rfl (.c rfl .nil)) .nil ?_
  refine .m rfl ?_
  refine .nil (aq_then ?_)
  refine aw_block ?_
  refine aw_weak (s' := ⟨[(2, .d (.val (.int .i64 a2))), (4, .ptr 4 0 []), (9, .d (.val (.bool false))), (10, .ptr 10 0 []), (13, .d (.val (.int .i64 (0 : Int)))), (45, .d (eA217 ([a3, y9.1] : List (List Int)))), (46, .d (.val (.int .i64 (0 : Int))))], [(4, .av (.d (eGTree a0))), (10, .av (.d (eGNode x2)))], []⟩) id hb0 (.keep rfl (.keep rfl (.keep rfl (.keep rfl (.keep rfl (.keep rfl (.keep rfl .nil))))))) (.keep rfl (.keep rfl .nil)) rfl (by rfl) ?_
  obtain ⟨o30, ho31, h⟩ := bind_some h
  refine aw_loopX (σ := Bool × Int × Int) (fun z => ⟨[(2, .d (.val (.int .i64 a2))), (4, .ptr 4 0 []), (9, .d (.val (.bool z.1))), (10, .ptr 10 0 []), (13, .d (.val (.int .i64 z.2.1))), (45, .d (eA217 ([a3, y9.1] : List (List Int)))), (46, .d (.val (.int .i64 z.2.2)))], [(4, .av (.d (eGTree a0))), (10, .av (.d (eGNode x2)))], []⟩) (Sum.elim (fun _ => .exit 0) (fun _ => .ret)) (Sum.elim (fun j30 => ⟨[(9, .d (.val (.bool j30.1))), (13, .d (.val (.int .i64 j30.2)))], [], []⟩) (fun j30 => ⟨[(8, .d (.val (.bool false))), (9, .d (.val (.bool false)))], [], []⟩)) ho31 (by intro b; rcases b with _ | _ <;> rfl) ?_ ?_
  ·clear h ho31
   rintro ⟨z0_0, z0_1, z0_2⟩ o h
   dsimp only at h
   show AW _ _ _ ⟨[(2, .d (.val (.int .i64 a2))), (4, .ptr 4 0 []), (9, .d (.val (.bool z0_0))), (10, .ptr 10 0 []), (13, .d (.val (.int .i64 z0_1))), (45, .d (eA217 ([a3, y9.1] : List (List Int)))), (46, .d (.val (.int .i64 z0_2)))], [(4, .av (.d (eGTree a0))), (10, .av (.d (eGNode x2)))], []⟩
   refine aw_rs ?_
   refine .b rfl rfl rfl ?_
   refine .nil (aq_then ?_)
   refine aw_seq ?_
   refine aw_cond rfl (fun hc11 => ?_) (fun hc11 => ?_)
   ·replace h := ite_t hc11 h
    refine aw_skip ?_
    refine aq_then ?_
    refine aw_seq ?_
    refine aw_block ?_
    refine aw_rs ?_
    refine .m rfl ?_
    obtain ⟨x12, hx13, h⟩ := bind_some h
    obtain ⟨hx14, hx13⟩ := rd_some hx13
    refine .v (f_indexV (z := (eA22 x12)) (by rfl) uda217 ty23 hx14 (rd_map eA22 hx13)) rfl (.c rfl (.c rfl .nil)) .nil ?_
    refine .n (f_alloc 15 (by rfl) zr23) rfl .nil rfl ?_
    refine .a rfl ?_
    refine .s (f_store (n := 0) (o := 15) (off := 0) (p := []) (c := .d (eA22 (List.replicate 32 (0 : Int)))) (old := .d (eA22 (List.replicate 32 (0 : Int)))) (z := .d (eA22 x12)) (c' := .d (eA22 x12)) rfl rfl (by rfl) ty23 (by rfl)) rfl (.c rfl (.c rfl .nil)) (.cons rfl .nil) ?_
    refine .z ?_
    refine .l 10 0 [] (.d (eGNode x2)) (.d (eGNode x2)) ty141 ?_
    obtain ⟨y15, hy16, h⟩ := bind_some h
    refine .v (f_callP hgl (by rfl) en155 rfl (by rfl) (by rfl) (by rfl) (F155_tree_roads_ok hy16)) rfl (.c rfl .nil) .nil ?_
    refine .m rfl ?_
    obtain ⟨x17, hx18, h⟩ := bind_some h
    obtain ⟨hx19, hx18⟩ := rd_some hx18
    refine .v (f_indexV (z := (.val (.int .i64 x17))) (by rfl) uda200 ty3 hx19 (rd_map eI_i64 hx18)) rfl (.c rfl (.c rfl .nil)) .nil ?_
    refine .a rfl ?_
    refine .z ?_
    refine .l 4 0 [] (.d (eGTree a0)) (.d (eGTree a0)) ty90 ?_
    refine .m rfl ?_
    refine .m rfl ?_
    refine .b rfl rfl rfl ?_
    refine .l 15 0 [] (.d (eA22 x12)) (.d (eA22 x12)) ty23 ?_
    obtain ⟨y20, hy21, h⟩ := bind_some h
    refine .v (f_callP hgl (by rfl) en154 rfl (by rfl) (by rfl) (by rfl) (ih _ _ _ _ _ hy21)) rfl (.c rfl (.c rfl (.c rfl (.c rfl .nil)))) .nil ?_
    refine .m rfl ?_
    refine .v (f_extract (by rfl) rfl) rfl (.c rfl .nil) .nil ?_
    refine .v (f_extract (by rfl) rfl) rfl (.c rfl .nil) .nil ?_
    refine .a rfl ?_
    refine .a rfl ?_
    refine .nil (aq_then ?_)
    refine aw_seq ?_
    refine aw_rs ?_
    refine .m rfl ?_
    refine .v (f_not (by rfl)) rfl (.c rfl .nil) .nil ?_
    refine .nil (aq_then ?_)
    refine aw_cond rfl (fun hc22 => ?_) (fun hc22 => ?_)
    ·replace h := ite_t hc22 h
     refine aw_rs ?_
     refine .a rfl ?_
     refine .a rfl ?_
     refine .nil (aq_then ?_)
     refine aw_ret ?_
     refine aq_then_ret ?_
     refine aq_block_ret ?_
     refine aq_then_ret ?_
     obtain rfl := Option.some.inj h
     refine aq_weak (s' := ⟨[(8, .d (.val (.bool false))), (9, .d (.val (.bool false)))], [], []⟩) id hb0 (.keep rfl (.keep rfl .nil)) .nil rfl (by rfl) ?_
     exact jq
    replace h := ite_f hc22 h
    refine aw_skip ?_
    refine aq_then ?_
    refine aw_seq ?_
    refine aw_rs ?_
    refine .m rfl ?_
    refine .b rfl rfl rfl ?_
    refine .nil (aq_then ?_)
    refine aw_cond rfl (fun hc23 => ?_) (fun hc23 => ?_)
    ·replace h := ite_t hc23 h
     refine aw_r ?_
     refine .m rfl ?_
     refine .b rfl rfl rfl ?_
     refine .a rfl ?_
     refine .nil ?_
     refine aq_then ?_
     obtain ⟨o25, ho26, h⟩ := bind_some h
     refine aw_join (.normal) ⟨[(2, .d (.val (.int .i64 a2))), (4, .ptr 4 0 []), (9, .d (.val (.bool o25))), (10, .ptr 10 0 []), (13, .d (.val (.int .i64 (IntKind.i64.wrap (z0_1 + (1 : Int)))))), (45, .d (eA217 ([a3, y9.1] : List (List Int)))), (46, .d (.val (.int .i64 z0_2)))], [(4, .av (.d (eGTree a0))), (10, .av (.d (eGNode x2)))], []⟩ ?_ ?_
     ·replace h := ho26
      refine aw_r ?_
      refine .m rfl ?_
      refine .m rfl ?_
      rcases Bool.eq_false_or_eq_true z0_0 with hc24 | hc24
      ·replace h := ite_t hc24 h
       refine .off rfl rfl rfl hc24 rfl (by rfl) ?_
       refine .v (f_pick_true (by rfl) hc24) rfl (.c rfl (.c rfl .nil)) .nil ?_
       refine .a rfl ?_
       refine .nil ?_
       obtain rfl := Option.some.inj h
       refine aq_weak (s' := ⟨[(2, .d (.val (.int .i64 a2))), (4, .ptr 4 0 []), (9, .d (.val (.bool true))), (10, .ptr 10 0 []), (13, .d (.val (.int .i64 (IntKind.i64.wrap (z0_1 + (1 : Int)))))), (45, .d (eA217 ([a3, y9.1] : List (List Int)))), (46, .d (.val (.int .i64 z0_2)))], [(4, .av (.d (eGTree a0))), (10, .av (.d (eGNode x2)))], []⟩) id hb0 (.keep rfl (.keep rfl (.keep rfl (.keep rfl (.keep rfl (.keep rfl (.keep rfl .nil))))))) (.keep rfl (.keep rfl .nil)) rfl (by rfl) ?_
       exact jq
      replace h := ite_f hc24 h
      refine .gv (f_move (by rfl)) rfl rfl rfl hc24 (.c rfl .nil) .nil ?_
      refine .v (f_pick_false (by rfl) hc24) rfl (.c rfl (.c rfl .nil)) .nil ?_
      refine .a rfl ?_
      refine .nil ?_
      obtain rfl := Option.some.inj h
      refine aq_weak (s' := ⟨[(2, .d (.val (.int .i64 a2))), (4, .ptr 4 0 []), (9, .d (.val (.bool y20.2))), (10, .ptr 10 0 []), (13, .d (.val (.int .i64 (IntKind.i64.wrap (z0_1 + (1 : Int)))))), (45, .d (eA217 ([a3, y9.1] : List (List Int)))), (46, .d (.val (.int .i64 z0_2)))], [(4, .av (.d (eGTree a0))), (10, .av (.d (eGNode x2)))], []⟩) id hb0 (.keep rfl (.keep rfl (.keep rfl (.keep rfl (.keep rfl (.keep rfl (.keep rfl .nil))))))) (.keep rfl (.keep rfl .nil)) rfl (by rfl) ?_
      exact jq
     refine aq_block ?_
     refine aq_then ?_
     refine aw_r ?_
     refine .b rfl rfl rfl ?_
     refine .m rfl ?_
     refine .nil ?_
     obtain rfl := Option.some.inj h
     refine aq_weak (s' := ⟨[(2, .d (.val (.int .i64 a2))), (4, .ptr 4 0 []), (9, .d (.val (.bool o25))), (10, .ptr 10 0 []), (13, .d (.val (.int .i64 (IntKind.i64.wrap (z0_1 + (1 : Int)))))), (45, .d (eA217 ([a3, y9.1] : List (List Int)))), (46, .d (.val (.int .i64 (IntKind.i64.wrap (z0_2 + (1 : Int))))))], [(4, .av (.d (eGTree a0))), (10, .av (.d (eGNode x2)))], []⟩) id hb0 (.keep rfl (.keep rfl (.keep rfl (.keep rfl (.keep rfl (.keep rfl (.keep rfl .nil))))))) (.keep rfl (.keep rfl .nil)) rfl (by rfl) ?_
     exact jq
    replace h := ite_f hc23 h
    refine aw_skip ?_
    refine aq_then ?_
    obtain ⟨o28, ho29, h⟩ := bind_some h
    refine aw_join (.normal) ⟨[(2, .d (.val (.int .i64 a2))), (4, .ptr 4 0 []), (9, .d (.val (.bool o28))), (10, .ptr 10 0 []), (13, .d (.val (.int .i64 z0_1))), (45, .d (eA217 ([a3, y9.1] : List (List Int)))), (46, .d (.val (.int .i64 z0_2)))], [(4, .av (.d (eGTree a0))), (10, .av (.d (eGNode x2)))], []⟩ ?_ ?_
    ·replace h := ho29
     refine aw_r ?_
     refine .m rfl ?_
     refine .m rfl ?_
     rcases Bool.eq_false_or_eq_true z0_0 with hc27 | hc27
     ·replace h := ite_t hc27 h
      refine .off rfl rfl rfl hc27 rfl (by rfl) ?_
      refine .v (f_pick_true (by rfl) hc27) rfl (.c rfl (.c rfl .nil)) .nil ?_
      refine .a rfl ?_
      refine .nil ?_
      obtain rfl := Option.some.inj h
      refine aq_weak (s' := ⟨[(2, .d (.val (.int .i64 a2))), (4, .ptr 4 0 []), (9, .d (.val (.bool true))), (10, .ptr 10 0 []), (13, .d (.val (.int .i64 z0_1))), (45, .d (eA217 ([a3, y9.1] : List (List Int)))), (46, .d (.val (.int .i64 z0_2)))], [(4, .av (.d (eGTree a0))), (10, .av (.d (eGNode x2)))], []⟩) id hb0 (.keep rfl (.keep rfl (.keep rfl (.keep rfl (.keep rfl (.keep rfl (.keep rfl .nil))))))) (.keep rfl (.keep rfl .nil)) rfl (by rfl) ?_
      exact jq
     replace h := ite_f hc27 h
     refine .gv (f_move (by rfl)) rfl rfl rfl hc27 (.c rfl .nil) .nil ?_
     refine .v (f_pick_false (by rfl) hc27) rfl (.c rfl (.c rfl .nil)) .nil ?_
     refine .a rfl ?_
     refine .nil ?_
     obtain rfl := Option.some.inj h
     refine aq_weak (s' := ⟨[(2, .d (.val (.int .i64 a2))), (4, .ptr 4 0 []), (9, .d (.val (.bool y20.2))), (10, .ptr 10 0 []), (13, .d (.val (.int .i64 z0_1))), (45, .d (eA217 ([a3, y9.1] : List (List Int)))), (46, .d (.val (.int .i64 z0_2)))], [(4, .av (.d (eGTree a0))), (10, .av (.d (eGNode x2)))], []⟩) id hb0 (.keep rfl (.keep rfl (.keep rfl (.keep rfl (.keep rfl (.keep rfl (.keep rfl .nil))))))) (.keep rfl (.keep rfl .nil)) rfl (by rfl) ?_
     exact jq
    refine aq_block ?_
    refine aq_then ?_
    refine aw_r ?_
    refine .b rfl rfl rfl ?_
    refine .m rfl ?_
    refine .nil ?_
    obtain rfl := Option.some.inj h
    refine aq_weak (s' := ⟨[(2, .d (.val (.int .i64 a2))), (4, .ptr 4 0 []), (9, .d (.val (.bool o28))), (10, .ptr 10 0 []), (13, .d (.val (.int .i64 z0_1))), (45, .d (eA217 ([a3, y9.1] : List (List Int)))), (46, .d (.val (.int .i64 (IntKind.i64.wrap (z0_2 + (1 : Int))))))], [(4, .av (.d (eGTree a0))), (10, .av (.d (eGNode x2)))], []⟩) id hb0 (.keep rfl (.keep rfl (.keep rfl (.keep rfl (.keep rfl (.keep rfl (.keep rfl .nil))))))) (.keep rfl (.keep rfl .nil)) rfl (by rfl) ?_
    exact jq
   replace h := ite_f hc11 h
   refine aw_exit ?_
   refine aq_then_exit ?_
   obtain rfl := Option.some.inj h
   refine aq_weak (s' := ⟨[(9, .d (.val (.bool z0_0))), (13, .d (.val (.int .i64 z0_1)))], [], []⟩) id hb0 (.keep rfl (.keep rfl .nil)) .nil rfl (by rfl) ?_
   exact jq
  rcases o30 with j30 | j30
  ·replace h := elim_l h
   refine aq_block_exit ?_
   refine aq_then ?_
   refine aw_seq ?_
   obtain ⟨o33, ho34, h⟩ := bind_some h
   refine aw_join (.normal) ⟨[(9, .d (.val (.bool o33)))], [], []⟩ ?_ ?_
   ·replace h := ho34
    refine aw_r ?_
    refine .m rfl ?_
    refine .m rfl ?_
    rcases Bool.eq_false_or_eq_true j30.1 with hc32 | hc32
    ·replace h := ite_t hc32 h
     refine .off rfl rfl rfl hc32 rfl (by rfl) ?_
     refine .off rfl rfl rfl hc32 rfl (by rfl) ?_
     refine .v (f_pick_true (by rfl) hc32) rfl (.c rfl (.c rfl .nil)) .nil ?_
     refine .a rfl ?_
     refine .nil ?_
     obtain rfl := Option.some.inj h
     refine aq_weak (s' := ⟨[(9, .d (.val (.bool true)))], [], []⟩) id hb0 (.keep rfl .nil) .nil rfl (by rfl) ?_
     exact jq
    replace h := ite_f hc32 h
    refine .gv (f_move (by rfl)) rfl rfl rfl hc32 (.c rfl .nil) .nil ?_
    refine .gv (f_binI (by rfl) rfl (by rfl)) rfl rfl rfl hc32 (.c rfl (.c rfl .nil)) .nil ?_
    refine .v (f_pick_false (by rfl) hc32) rfl (.c rfl (.c rfl .nil)) .nil ?_
    refine .a rfl ?_
    refine .nil ?_
    obtain rfl := Option.some.inj h
    refine aq_weak (s' := ⟨[(9, .d (.val (.bool (j30.2 == (2 : Int)))))], [], []⟩) id hb0 (.keep rfl .nil) .nil rfl (by rfl) ?_
    exact jq
   refine aq_then ?_
   refine aw_rs ?_
   refine .m rfl ?_
   refine .m rfl ?_
   refine .a rfl ?_
   refine .a rfl ?_
   refine .nil (aq_then ?_)
   refine aw_ret ?_
   obtain rfl := Option.some.inj h
   exact aq_finp hb0 rfl (.tmp rfl (by rfl) (.tmp rfl (by rfl) .nil)) (by rfl) rfl ⟨rfl, rfl⟩
  replace h := elim_r h
  refine aq_block_ret ?_
  refine aq_then_ret ?_
  obtain rfl := Option.some.inj h
  exact aq_finp hb0 rfl (.tmp rfl (by rfl) (.tmp rfl (by rfl) .nil)) (by rfl) rfl ⟨rfl, rfl⟩
theorem F154_tree_right_ok {n : Nat} {a0 : GTree} {a1 : Int} {a2 : Int} {a3 : (List Int)} {r : Bool × Bool} (h : F154_tree_right n a0 a1 a2 a3 = some r) :
    ACall Tryd.prog GS 154 [.d (eGTree a0), .d (.val (.int .i64 a1)), .d (.val (.int .i64 a2)), .d (eA22 a3)] [] (fun r' hp' => r' = .res [.d (.val (.bool r.1)), .d (.val (.bool r.2))] ∧ hp' = []) := F154_tree_right_rec n a0 a1 a2 a3 r h

/- 153: beadroll/tree.one -/
def F153_tree_one_s0 (a1 : Int) (y8 : (List Int)) (z0_0 : Int) : Option ((Int) ⊕ ((Unit) ⊕ (Unit))) :=
  (if (decide (z0_0 < (2 : Int))) = true then ((rd y8 z0_0).bind fun (x11 : Int) => (((if (decide (x11 < (0 : Int))) = true then some true else some (decide (x11 > a1)))).bind fun (o15 : Bool) => (if o15 = true then some (.inr (.inr ())) else some (.inl (IntKind.i64.wrap (z0_0 + (1 : Int))))))) else some (.inr (.inl ())))
def F153_tree_one (n : Nat) (a0 : GNode) (a1 : Int) : Option (Bool) :=
  (if a0.Leaf = true then (((if (a0.Left == (0 : Int)) = true then (if (a0.Right == (0 : Int)) = true then ((F164_pairs_Check n ([(⟨a0.Key, a0.Value⟩ : GPair)] : List GPair)).bind fun (y4 : Int) => some (y4 == (0 : Int))) else some false) else some false)).bind fun (o6 : Bool) => some o6) else ((F155_tree_roads n a0).bind fun (y8 : (List Int)) => ((loopF (fun (z : Int) => F153_tree_one_s0 a1 y8 z) n (0 : Int)).bind (Sum.elim (fun (j18 : Unit) => (((if (decide (a0.Key = (List.replicate 32 (0 : Int)))) = true then (if (((a0.Value).length : Int) == (0 : Int)) = true then some (decide ((IntKind.i64.wrap (a0.Left + a0.Right)) > (0 : Int))) else some false) else some false)).bind fun (o22 : Bool) => some o22)) (fun (j18 : Unit) => some false)))))
theorem F153_tree_one_ok {n : Nat} {a0 : GNode} {a1 : Int} {r : Bool} (h : F153_tree_one n a0 a1 = some r) :
    ACall Tryd.prog GS 153 [.d (eGNode a0), .d (.val (.int .i64 a1))] [] (fun r' hp' => r' = .d (.val (.bool r)) ∧ hp' = []) := by
 refine acall_of_body mixed Tryd.func153 rfl (by rfl) ?_
 intro C hro hgl hb0
 unfold F153_tree_one at h
 refine aw_rs ?_
 refine .n (f_box 2 (by rfl) (by rfl)) rfl (.c rfl .nil) rfl ?_
 refine .a rfl ?_
 refine .nil (aq_then ?_)
 refine aw_seq ?_
 refine aw_rs ?_
 refine .v (f_fieldAddr (n := 0) (by rfl) fl141_0 (by decide)) rfl (.c rfl .nil) .nil ?_
 refine .l 2 (0 + 0) [0] (.d (eGNode a0)) (.d (.val (.bool a0.Leaf))) ty4 ?_
 refine .nil (aq_then ?_)
 refine aw_cond rfl (fun hc1 => ?_) (fun hc1 => ?_)
 ·replace h := ite_t hc1 h
  refine aw_seq ?_
  obtain ⟨o6, ho7, h⟩ := bind_some h
  refine aw_join (.normal) ⟨[(4, .d (.val (.bool o6)))], [], []⟩ ?_ ?_
  ·replace h := ho7
   refine aw_r ?_
   refine .v (f_fieldAddr (n := 34) (by rfl) fl141_3 (by decide)) rfl (.c rfl .nil) .nil ?_
   refine .l 2 (0 + 34) [3] (.d (eGNode a0)) (.d (.val (.int .i64 a0.Left))) ty3 ?_
   refine .b rfl rfl rfl ?_
   refine .m rfl ?_
   rcases Bool.eq_false_or_eq_true (a0.Left == (0 : Int)) with hc2 | hc2
   ·replace h := ite_t hc2 h
    refine .gv (f_fieldAddr (n := 35) (by rfl) fl141_4 (by decide)) rfl rfl rfl hc2 (.c rfl .nil) .nil ?_
    refine .gv (f_load (n := 0) (o := 2) (off := (0 + 35)) (p := [4]) (c := .d (eGNode a0)) (z := .d (.val (.int .i64 a0.Right))) (by rfl) rfl ty3 (by rfl)) rfl rfl rfl hc2 (.c rfl .nil) (.cons rfl .nil) ?_
    refine .gv (f_binI (by rfl) rfl (by rfl)) rfl rfl rfl hc2 (.c rfl (.c rfl .nil)) .nil ?_
    refine .v (f_pick_true (by rfl) hc2) rfl (.c rfl (.c rfl .nil)) .nil ?_
    refine .m rfl ?_
    rcases Bool.eq_false_or_eq_true (a0.Right == (0 : Int)) with hc3 | hc3
    ·replace h := ite_t hc3 h
     refine .gv (f_fieldAddr (n := 1) (by rfl) fl141_1 (by decide)) rfl rfl rfl hc3 (.c rfl .nil) .nil ?_
     refine .gv (f_load (n := 0) (o := 2) (off := (0 + 1)) (p := [1]) (c := .d (eGNode a0)) (z := .d (eA22 a0.Key)) (by rfl) rfl ty23 (by rfl)) rfl rfl rfl hc3 (.c rfl .nil) (.cons rfl .nil) ?_
     refine .gv (f_fieldAddr (n := 33) (by rfl) fl141_2 (by decide)) rfl rfl rfl hc3 (.c rfl .nil) .nil ?_
     refine .gv (f_load (n := 0) (o := 2) (off := (0 + 33)) (p := [2]) (c := .d (eGNode a0)) (z := .d (eL139 a0.Value)) (by rfl) rfl ty139 (by rfl)) rfl rfl rfl hc3 (.c rfl .nil) (.cons rfl .nil) ?_
     refine .gv (f_build (xs := [(0, .d (eA22 a0.Key)), (1, .d (eL139 a0.Value))]) (z' := .d (eGPair (⟨a0.Key, a0.Value⟩ : GPair))) (by rfl) zrd179 ag179 rfl (by rfl) ⟨_, _, _, rfl, pl179_0, rfl, rfl, ⟨_, _, _, rfl, pl179_1, rfl, rfl, trivial⟩⟩ (by rfl) (by rfl)) rfl rfl rfl hc3 (.c rfl (.c rfl .nil)) .nil ?_
     refine .gw (f_buildS (xs := [(0, .d (eGPair (⟨a0.Key, a0.Value⟩ : GPair)))]) (z := (.st [(eA22 (List.replicate 32 (0 : Int))), (.val (.slice none 0 0))])) (zs := (([(⟨a0.Key, a0.Value⟩ : GPair)] : List GPair)).map eGPair) 1058 (by rfl) el175 zel175 (by rfl) (by decide) (by decide) rfl (by rfl) ⟨_, _, _, rfl, pl175_0, rfl, rfl, trivial⟩ (by rfl)) rfl rfl rfl hc3 (.c rfl .nil) .nil (.cons rfl .nil) ?_
     obtain ⟨y4, hy5, h⟩ := bind_some h
     refine .gw (f_callH0 (xs := [.slc 1058 0 ((([(⟨a0.Key, a0.Value⟩ : GPair)] : List GPair)).length) 33]) (r := .d (.val (.int .i64 y4))) (hr := []) (fun i => i) [(1058, (.arr 33 ((([(⟨a0.Key, a0.Value⟩ : GPair)] : List GPair)).length) ((([(⟨a0.Key, a0.Value⟩ : GPair)] : List GPair)).map eGPair)))] hgl (by rfl) (cal_f en164) rfl (by rfl) (by rfl) (by rfl) (by rfl) (by rfl) (.cons (.whole (.head _)) .nil) rfl rfl (flat_val) trivial (F164_pairs_Check_ok hy5)) rfl rfl rfl hc3 (.c rfl .nil) (.cons rfl .nil) .nil ?_
     refine .gv (f_binI (by rfl) rfl (by rfl)) rfl rfl rfl hc3 (.c rfl (.c rfl .nil)) .nil ?_
     refine .v (f_pick_true (by rfl) hc3) rfl (.c rfl (.c rfl .nil)) .nil ?_
     refine .a rfl ?_
     refine .nil ?_
     obtain rfl := Option.some.inj h
     refine aq_weak (s' := ⟨[(4, .d (.val (.bool (y4 == (0 : Int)))))], [], []⟩) id hb0 (.keep rfl .nil) .nil rfl (by rfl) ?_
     exact jq
    replace h := ite_f hc3 h
    refine .off rfl rfl rfl hc3 rfl (by rfl) ?_
    refine .off rfl rfl rfl hc3 rfl (by rfl) ?_
    refine .off rfl rfl rfl hc3 rfl (by rfl) ?_
    refine .off rfl rfl rfl hc3 rfl (by rfl) ?_
    refine .off rfl rfl rfl hc3 rfl (by rfl) ?_
    refine .off rfl rfl rfl hc3 rfl (by rfl) ?_
    refine .off rfl rfl rfl hc3 rfl (by rfl) ?_
    refine .off rfl rfl rfl hc3 rfl (by rfl) ?_
    refine .v (f_pick_false (by rfl) hc3) rfl (.c rfl (.c rfl .nil)) .nil ?_
    refine .a rfl ?_
    refine .nil ?_
    obtain rfl := Option.some.inj h
    refine aq_weak (s' := ⟨[(4, .d (.val (.bool false)))], [], []⟩) id hb0 (.keep rfl .nil) .nil rfl (by rfl) ?_
    exact jq
   replace h := ite_f hc2 h
   refine .off rfl rfl rfl hc2 rfl (by rfl) ?_
   refine .off rfl rfl rfl hc2 rfl (by rfl) ?_
   refine .off rfl rfl rfl hc2 rfl (by rfl) ?_
   refine .v (f_pick_false (by rfl) hc2) rfl (.c rfl (.c rfl .nil)) .nil ?_
   refine .m rfl ?_
   refine .off rfl rfl rfl rfl rfl (by rfl) ?_
   refine .off rfl rfl rfl rfl rfl (by rfl) ?_
   refine .off rfl rfl rfl rfl rfl (by rfl) ?_
   refine .off rfl rfl rfl rfl rfl (by rfl) ?_
   refine .off rfl rfl rfl rfl rfl (by rfl) ?_
   refine .off rfl rfl rfl rfl rfl (by rfl) ?_
   refine .off rfl rfl rfl rfl rfl (by rfl) ?_
   refine .off rfl rfl rfl rfl rfl (by rfl) ?_
   refine .v (f_pick_false (by rfl) rfl) rfl (.c rfl (.c rfl .nil)) .nil ?_
   refine .a rfl ?_
   refine .nil ?_
   obtain rfl := Option.some.inj h
   refine aq_weak (s' := ⟨[(4, .d (.val (.bool false)))], [], []⟩) id hb0 (.keep rfl .nil) .nil rfl (by rfl) ?_
   exact jq
  refine aq_then ?_
  refine aw_ret ?_
  refine aq_then_ret ?_
  obtain rfl := Option.some.inj h
  exact aq_finp hb0 rfl (.tmp rfl (by rfl) .nil) (by rfl) rfl ⟨rfl, rfl⟩
 replace h := ite_f hc1 h
 refine aw_skip ?_
 refine aq_then ?_
 refine aw_seq ?_
 refine aw_rs ?_
 refine .l 2 0 [] (.d (eGNode a0)) (.d (eGNode a0)) ty141 ?_
 obtain ⟨y8, hy9, h⟩ := bind_some h
 refine .v (f_callP hgl (by rfl) en155 rfl (by rfl) (by rfl) (by rfl) (F155_tree_roads_ok hy9)) rfl (.c rfl .nil) .nil ?_
 refine .m rfl ?_
 refine .nil (aq_then ?_)
 refine aw_block ?_
 refine aw_weak (s' := ⟨[(1, .d (.val (.int .i64 a1))), (2, .ptr 2 0 []), (28, .d (eA200 y8)), (29, .d (.val (.int .i64 (0 : Int))))], [(2, .av (.d (eGNode a0)))], []⟩) id hb0 (.keep rfl (.keep rfl (.keep rfl (.keep rfl .nil)))) (.keep rfl .nil) rfl (by rfl) ?_
 obtain ⟨o18, ho19, h⟩ := bind_some h
 refine aw_loopX (σ := Int) (fun z => ⟨[(1, .d (.val (.int .i64 a1))), (2, .ptr 2 0 []), (28, .d (eA200 y8)), (29, .d (.val (.int .i64 z)))], [(2, .av (.d (eGNode a0)))], []⟩) (Sum.elim (fun _ => .exit 0) (fun _ => .ret)) (Sum.elim (fun j18 => ⟨[(2, .ptr 2 0 [])], [(2, .av (.d (eGNode a0)))], []⟩) (fun j18 => ⟨[(4, .d (.val (.bool false)))], [], []⟩)) ho19 (by intro b; rcases b with _ | _ <;> rfl) ?_ ?_
 ·clear h ho19
  intro z0_0 o h
  change F153_tree_one_s0 a1 y8 z0_0 = some o at h
  unfold F153_tree_one_s0 at h
  show AW _ _ _ ⟨[(1, .d (.val (.int .i64 a1))), (2, .ptr 2 0 []), (28, .d (eA200 y8)), (29, .d (.val (.int .i64 z0_0)))], [(2, .av (.d (eGNode a0)))], []⟩
  refine aw_rs ?_
  refine .b rfl rfl rfl ?_
  refine .nil (aq_then ?_)
  refine aw_seq ?_
  refine aw_cond rfl (fun hc10 => ?_) (fun hc10 => ?_)
  ·replace h := ite_t hc10 h
   refine aw_skip ?_
   refine aq_then ?_
   refine aw_seq ?_
   refine aw_block ?_
   refine aw_rs ?_
   obtain ⟨x11, hx12, h⟩ := bind_some h
   obtain ⟨hx13, hx12⟩ := rd_some hx12
   refine .v (f_indexV (z := (.val (.int .i64 x11))) (by rfl) uda200 ty3 hx13 (rd_map eI_i64 hx12)) rfl (.c rfl (.c rfl .nil)) .nil ?_
   refine .a rfl ?_
   refine .nil (aq_then ?_)
   refine aw_seq ?_
   obtain ⟨o15, ho17, h⟩ := bind_some h
   refine aw_join (.normal) ⟨[(1, .d (.val (.int .i64 a1))), (2, .ptr 2 0 []), (28, .d (eA200 y8)), (29, .d (.val (.int .i64 z0_0))), (38, .d (.val (.bool o15)))], [(2, .av (.d (eGNode a0)))], []⟩ ?_ ?_
   ·replace h := ho17
    refine aw_r ?_
    refine .m rfl ?_
    refine .b rfl rfl rfl ?_
    refine .m rfl ?_
    rcases Bool.eq_false_or_eq_true (decide (x11 < (0 : Int))) with hc14 | hc14
    ·replace h := ite_t hc14 h
     refine .off rfl rfl rfl hc14 rfl (by rfl) ?_
     refine .off rfl rfl rfl hc14 rfl (by rfl) ?_
     refine .off rfl rfl rfl hc14 rfl (by rfl) ?_
     refine .v (f_pick_true (by rfl) hc14) rfl (.c rfl (.c rfl .nil)) .nil ?_
     refine .nil ?_
     obtain rfl := Option.some.inj h
     refine aq_weak (s' := ⟨[(1, .d (.val (.int .i64 a1))), (2, .ptr 2 0 []), (28, .d (eA200 y8)), (29, .d (.val (.int .i64 z0_0))), (38, .d (.val (.bool true)))], [(2, .av (.d (eGNode a0)))], []⟩) id hb0 (.keep rfl (.keep rfl (.keep rfl (.keep rfl (.keep rfl .nil))))) (.keep rfl .nil) rfl (by rfl) ?_
     exact jq
    replace h := ite_f hc14 h
    refine .gv (f_move (by rfl)) rfl rfl rfl hc14 (.c rfl .nil) .nil ?_
    refine .gv (f_move (by rfl)) rfl rfl rfl hc14 (.c rfl .nil) .nil ?_
    refine .gv (f_binI (by rfl) rfl (by rfl)) rfl rfl rfl hc14 (.c rfl (.c rfl .nil)) .nil ?_
    refine .v (f_pick_false (by rfl) hc14) rfl (.c rfl (.c rfl .nil)) .nil ?_
    refine .nil ?_
    obtain rfl := Option.some.inj h
    refine aq_weak (s' := ⟨[(1, .d (.val (.int .i64 a1))), (2, .ptr 2 0 []), (28, .d (eA200 y8)), (29, .d (.val (.int .i64 z0_0))), (38, .d (.val (.bool (decide (x11 > a1)))))], [(2, .av (.d (eGNode a0)))], []⟩) id hb0 (.keep rfl (.keep rfl (.keep rfl (.keep rfl (.keep rfl .nil))))) (.keep rfl .nil) rfl (by rfl) ?_
    exact jq
   refine aq_then ?_
   refine aw_cond rfl (fun hc16 => ?_) (fun hc16 => ?_)
   ·replace h := ite_t hc16 h
    refine aw_rs ?_
    refine .a rfl ?_
    refine .nil (aq_then ?_)
    refine aw_ret ?_
    refine aq_block_ret ?_
    refine aq_then_ret ?_
    obtain rfl := Option.some.inj h
    refine aq_weak (s' := ⟨[(4, .d (.val (.bool false)))], [], []⟩) id hb0 (.keep rfl .nil) .nil rfl (by rfl) ?_
    exact jq
   replace h := ite_f hc16 h
   refine aw_skip ?_
   refine aq_block ?_
   refine aq_then ?_
   refine aw_r ?_
   refine .b rfl rfl rfl ?_
   refine .m rfl ?_
   refine .nil ?_
   obtain rfl := Option.some.inj h
   refine aq_weak (s' := ⟨[(1, .d (.val (.int .i64 a1))), (2, .ptr 2 0 []), (28, .d (eA200 y8)), (29, .d (.val (.int .i64 (IntKind.i64.wrap (z0_0 + (1 : Int))))))], [(2, .av (.d (eGNode a0)))], []⟩) id hb0 (.keep rfl (.keep rfl (.keep rfl (.keep rfl .nil)))) (.keep rfl .nil) rfl (by rfl) ?_
   exact jq
  replace h := ite_f hc10 h
  refine aw_exit ?_
  refine aq_then_exit ?_
  obtain rfl := Option.some.inj h
  refine aq_weak (s' := ⟨[(2, .ptr 2 0 [])], [(2, .av (.d (eGNode a0)))], []⟩) id hb0 (.keep rfl .nil) (.keep rfl .nil) rfl (by rfl) ?_
  exact jq
 rcases o18 with j18 | j18
 ·replace h := elim_l h
  refine aq_block_exit ?_
  refine aq_then ?_
  refine aw_seq ?_
  obtain ⟨o22, ho23, h⟩ := bind_some h
  refine aw_join (.normal) ⟨[(4, .d (.val (.bool o22)))], [], []⟩ ?_ ?_
  ·replace h := ho23
   refine aw_r ?_
   refine .v (f_fieldAddr (n := 1) (by rfl) fl141_1 (by decide)) rfl (.c rfl .nil) .nil ?_
   refine .l 2 (0 + 1) [1] (.d (eGNode a0)) (.d (eA22 a0.Key)) ty23 ?_
   refine .v (f_build (xs := []) (z' := .d (eA22 (List.replicate 32 (0 : Int)))) (by rfl) zr23 ag23 rfl (by rfl) trivial (by rfl) (by rfl)) rfl .nil .nil ?_
   refine .v (f_eqlT (by rfl) (fit23 _) (fit23 _) (by rfl) (by rfl) gd23 (eq_eA22 _ _)) rfl (.c rfl (.c rfl .nil)) .nil ?_
   refine .m rfl ?_
   rcases Bool.eq_false_or_eq_true (decide (a0.Key = (List.replicate 32 (0 : Int)))) with hc20 | hc20
   ·replace h := ite_t hc20 h
    refine .gv (f_fieldAddr (n := 33) (by rfl) fl141_2 (by decide)) rfl rfl rfl hc20 (.c rfl .nil) .nil ?_
    refine .gv (f_load (n := 0) (o := 2) (off := (0 + 33)) (p := [2]) (c := .d (eGNode a0)) (z := .d (eL139 a0.Value)) (by rfl) rfl ty139 (by rfl)) rfl rfl rfl hc20 (.c rfl .nil) (.cons rfl .nil) ?_
    refine .gv (f_lenD (n := (a0.Value).length) (by rfl) sl139 rfl (by simp)) rfl rfl rfl hc20 (.c rfl .nil) .nil ?_
    refine .gv (f_binI (by rfl) rfl (by rfl)) rfl rfl rfl hc20 (.c rfl (.c rfl .nil)) .nil ?_
    refine .v (f_pick_true (by rfl) hc20) rfl (.c rfl (.c rfl .nil)) .nil ?_
    refine .m rfl ?_
    rcases Bool.eq_false_or_eq_true (((a0.Value).length : Int) == (0 : Int)) with hc21 | hc21
    ·replace h := ite_t hc21 h
     refine .gv (f_fieldAddr (n := 34) (by rfl) fl141_3 (by decide)) rfl rfl rfl hc21 (.c rfl .nil) .nil ?_
     refine .gv (f_load (n := 0) (o := 2) (off := (0 + 34)) (p := [3]) (c := .d (eGNode a0)) (z := .d (.val (.int .i64 a0.Left))) (by rfl) rfl ty3 (by rfl)) rfl rfl rfl hc21 (.c rfl .nil) (.cons rfl .nil) ?_
     refine .gv (f_fieldAddr (n := 35) (by rfl) fl141_4 (by decide)) rfl rfl rfl hc21 (.c rfl .nil) .nil ?_
     refine .gv (f_load (n := 0) (o := 2) (off := (0 + 35)) (p := [4]) (c := .d (eGNode a0)) (z := .d (.val (.int .i64 a0.Right))) (by rfl) rfl ty3 (by rfl)) rfl rfl rfl hc21 (.c rfl .nil) (.cons rfl .nil) ?_
     refine .gv (f_binI (by rfl) rfl (by rfl)) rfl rfl rfl hc21 (.c rfl (.c rfl .nil)) .nil ?_
     refine .gv (f_binI (by rfl) rfl (by rfl)) rfl rfl rfl hc21 (.c rfl (.c rfl .nil)) .nil ?_
     refine .v (f_pick_true (by rfl) hc21) rfl (.c rfl (.c rfl .nil)) .nil ?_
     refine .a rfl ?_
     refine .nil ?_
     obtain rfl := Option.some.inj h
     refine aq_weak (s' := ⟨[(4, .d (.val (.bool (decide ((IntKind.i64.wrap (a0.Left + a0.Right)) > (0 : Int))))))], [], []⟩) id hb0 (.keep rfl .nil) .nil rfl (by rfl) ?_
     exact jq
    replace h := ite_f hc21 h
    refine .off rfl rfl rfl hc21 rfl (by rfl) ?_
    refine .off rfl rfl rfl hc21 rfl (by rfl) ?_
    refine .off rfl rfl rfl hc21 rfl (by rfl) ?_
    refine .off rfl rfl rfl hc21 rfl (by rfl) ?_
    refine .off rfl rfl rfl hc21 rfl (by rfl) ?_
    refine .off rfl rfl rfl hc21 rfl (by rfl) ?_
    refine .v (f_pick_false (by rfl) hc21) rfl (.c rfl (.c rfl .nil)) .nil ?_
    refine .a rfl ?_
    refine .nil ?_
    obtain rfl := Option.some.inj h
    refine aq_weak (s' := ⟨[(4, .d (.val (.bool false)))], [], []⟩) id hb0 (.keep rfl .nil) .nil rfl (by rfl) ?_
    exact jq
   replace h := ite_f hc20 h
   refine .off rfl rfl rfl hc20 rfl (by rfl) ?_
   refine .off rfl rfl rfl hc20 rfl (by rfl) ?_
   refine .off rfl rfl rfl hc20 rfl (by rfl) ?_
   refine .off rfl rfl rfl hc20 rfl (by rfl) ?_
   refine .v (f_pick_false (by rfl) hc20) rfl (.c rfl (.c rfl .nil)) .nil ?_
   refine .m rfl ?_
   refine .off rfl rfl rfl rfl rfl (by rfl) ?_
   refine .off rfl rfl rfl rfl rfl (by rfl) ?_
   refine .off rfl rfl rfl rfl rfl (by rfl) ?_
   refine .off rfl rfl rfl rfl rfl (by rfl) ?_
   refine .off rfl rfl rfl rfl rfl (by rfl) ?_
   refine .off rfl rfl rfl rfl rfl (by rfl) ?_
   refine .v (f_pick_false (by rfl) rfl) rfl (.c rfl (.c rfl .nil)) .nil ?_
   refine .a rfl ?_
   refine .nil ?_
   obtain rfl := Option.some.inj h
   refine aq_weak (s' := ⟨[(4, .d (.val (.bool false)))], [], []⟩) id hb0 (.keep rfl .nil) .nil rfl (by rfl) ?_
   exact jq
  refine aq_then ?_
  refine aw_ret ?_
  obtain rfl := Option.some.inj h
  exact aq_finp hb0 rfl (.tmp rfl (by rfl) .nil) (by rfl) rfl ⟨rfl, rfl⟩
 replace h := elim_r h
 refine aq_block_ret ?_
 refine aq_then_ret ?_
 obtain rfl := Option.some.inj h
 exact aq_finp hb0 rfl (.tmp rfl (by rfl) .nil) (by rfl) rfl ⟨rfl, rfl⟩

/- 129: beadroll/tree.Check -/
def F129_tree_Check_s0 (n : Nat) (a0 : GTree) (z0_0 : Int) : Option ((Int) ⊕ ((Unit) ⊕ (Unit))) :=
  (if (decide (z0_0 < ((a0.Nodes).length : Int))) = true then ((rd a0.Nodes z0_0).bind fun (x6 : GNode) => ((F153_tree_one n x6 z0_0).bind fun (y9 : Bool) => (if (!y9) = true then some (.inr (.inr ())) else some (.inl (IntKind.i64.wrap (z0_0 + (1 : Int))))))) else some (.inr (.inl ())))
def F129_tree_Check (n : Nat) (a0 : GTree) : Option (Int) :=
  (((if (decide (((a0.Nodes).length : Int) > (262144 : Int))) = true then some true else (if (decide (a0.Root < (0 : Int))) = true then some true else some (decide (a0.Root > ((a0.Nodes).length : Int)))))).bind fun (o3 : Bool) => (if o3 = true then some (8 : Int) else ((loopF (fun (z : Int) => F129_tree_Check_s0 n a0 z) n (0 : Int)).bind (Sum.elim (fun (j12 : Unit) => ((F154_tree_right n a0 a0.Root (0 : Int) (List.replicate 32 (0 : Int))).bind fun (y14 : Bool × Bool) => (if (!y14.1) = true then some (8 : Int) else some (0 : Int)))) (fun (j12 : Unit) => some (8 : Int))))))
theorem F129_tree_Check_ok {n : Nat} {a0 : GTree} {r : Int} (h : F129_tree_Check n a0 = some r) :
    ACall Tryd.prog GS 129 [.d (eGTree a0)] [] (fun r' hp' => r' = .d (.val (.int .i64 r)) ∧ hp' = []) := by
 refine acall_of_body mixed Tryd.func129 rfl (by rfl) ?_
 intro C hro hgl hb0
 unfold F129_tree_Check at h
 refine aw_rs ?_
 refine .n (f_box 1 (by rfl) (by rfl)) rfl (.c rfl .nil) rfl ?_
 refine .a rfl ?_
 refine .nil (aq_then ?_)
 refine aw_seq ?_
 refine aw_seq ?_
 obtain ⟨o3, ho17, h⟩ := bind_some h
 refine aw_join (.normal) ⟨[(1, .ptr 1 0 []), (23, .d (.val (.bool o3)))], [(1, .av (.d (eGTree a0)))], []⟩ ?_ ?_
 ·replace h := ho17
  refine aw_r ?_
  refine .v (f_fieldAddr (n := 0) (by rfl) fl90_0 (by decide)) rfl (.c rfl .nil) .nil ?_
  refine .l 1 (0 + 0) [0] (.d (eGTree a0)) (.d (eL88 a0.Nodes)) ty88 ?_
  refine .v (f_lenD (n := (a0.Nodes).length) (by rfl) sl88 rfl (by simp)) rfl (.c rfl .nil) .nil ?_
  refine .b rfl rfl rfl ?_
  refine .m rfl ?_
  rcases Bool.eq_false_or_eq_true (decide (((a0.Nodes).length : Int) > (262144 : Int))) with hc1 | hc1
  ·replace h := ite_t hc1 h
   refine .off rfl rfl rfl hc1 rfl (by rfl) ?_
   refine .off rfl rfl rfl hc1 rfl (by rfl) ?_
   refine .off rfl rfl rfl hc1 rfl (by rfl) ?_
   refine .v (f_pick_true (by rfl) hc1) rfl (.c rfl (.c rfl .nil)) .nil ?_
   refine .m rfl ?_
   refine .off rfl rfl rfl rfl rfl (by rfl) ?_
   refine .off rfl rfl rfl rfl rfl (by rfl) ?_
   refine .off rfl rfl rfl rfl rfl (by rfl) ?_
   refine .off rfl rfl rfl rfl rfl (by rfl) ?_
   refine .off rfl rfl rfl rfl rfl (by rfl) ?_
   refine .off rfl rfl rfl rfl rfl (by rfl) ?_
   refine .v (f_pick_true (by rfl) rfl) rfl (.c rfl (.c rfl .nil)) .nil ?_
   refine .nil ?_
   obtain rfl := Option.some.inj h
   refine aq_weak (s' := ⟨[(1, .ptr 1 0 []), (23, .d (.val (.bool true)))], [(1, .av (.d (eGTree a0)))], []⟩) id hb0 (.keep rfl (.keep rfl .nil)) (.keep rfl .nil) rfl (by rfl) ?_
   exact jq
  replace h := ite_f hc1 h
  refine .gv (f_fieldAddr (n := 1) (by rfl) fl90_1 (by decide)) rfl rfl rfl hc1 (.c rfl .nil) .nil ?_
  refine .gv (f_load (n := 0) (o := 1) (off := (0 + 1)) (p := [1]) (c := .d (eGTree a0)) (z := .d (.val (.int .i64 a0.Root))) (by rfl) rfl ty3 (by rfl)) rfl rfl rfl hc1 (.c rfl .nil) (.cons rfl .nil) ?_
  refine .gv (f_binI (by rfl) rfl (by rfl)) rfl rfl rfl hc1 (.c rfl (.c rfl .nil)) .nil ?_
  refine .v (f_pick_false (by rfl) hc1) rfl (.c rfl (.c rfl .nil)) .nil ?_
  refine .m rfl ?_
  rcases Bool.eq_false_or_eq_true (decide (a0.Root < (0 : Int))) with hc2 | hc2
  ·replace h := ite_t hc2 h
   refine .off rfl rfl rfl hc2 rfl (by rfl) ?_
   refine .off rfl rfl rfl hc2 rfl (by rfl) ?_
   refine .off rfl rfl rfl hc2 rfl (by rfl) ?_
   refine .off rfl rfl rfl hc2 rfl (by rfl) ?_
   refine .off rfl rfl rfl hc2 rfl (by rfl) ?_
   refine .off rfl rfl rfl hc2 rfl (by rfl) ?_
   refine .v (f_pick_true (by rfl) hc2) rfl (.c rfl (.c rfl .nil)) .nil ?_
   refine .nil ?_
   obtain rfl := Option.some.inj h
   refine aq_weak (s' := ⟨[(1, .ptr 1 0 []), (23, .d (.val (.bool true)))], [(1, .av (.d (eGTree a0)))], []⟩) id hb0 (.keep rfl (.keep rfl .nil)) (.keep rfl .nil) rfl (by rfl) ?_
   exact jq
  replace h := ite_f hc2 h
  refine .gv (f_fieldAddr (n := 1) (by rfl) fl90_1 (by decide)) rfl rfl rfl hc2 (.c rfl .nil) .nil ?_
  refine .gv (f_load (n := 0) (o := 1) (off := (0 + 1)) (p := [1]) (c := .d (eGTree a0)) (z := .d (.val (.int .i64 a0.Root))) (by rfl) rfl ty3 (by rfl)) rfl rfl rfl hc2 (.c rfl .nil) (.cons rfl .nil) ?_
  refine .gv (f_fieldAddr (n := 0) (by rfl) fl90_0 (by decide)) rfl rfl rfl hc2 (.c rfl .nil) .nil ?_
  refine .gv (f_load (n := 0) (o := 1) (off := (0 + 0)) (p := [0]) (c := .d (eGTree a0)) (z := .d (eL88 a0.Nodes)) (by rfl) rfl ty88 (by rfl)) rfl rfl rfl hc2 (.c rfl .nil) (.cons rfl .nil) ?_
  refine .gv (f_lenD (n := (a0.Nodes).length) (by rfl) sl88 rfl (by simp)) rfl rfl rfl hc2 (.c rfl .nil) .nil ?_
  refine .gv (f_binI (by rfl) rfl (by rfl)) rfl rfl rfl hc2 (.c rfl (.c rfl .nil)) .nil ?_
  refine .v (f_pick_false (by rfl) hc2) rfl (.c rfl (.c rfl .nil)) .nil ?_
  refine .nil ?_
  obtain rfl := Option.some.inj h
  refine aq_weak (s' := ⟨[(1, .ptr 1 0 []), (23, .d (.val (.bool (decide (a0.Root > ((a0.Nodes).length : Int))))))], [(1, .av (.d (eGTree a0)))], []⟩) id hb0 (.keep rfl (.keep rfl .nil)) (.keep rfl .nil) rfl (by rfl) ?_
  exact jq
 refine aq_then ?_
 refine aw_cond rfl (fun hc4 => ?_) (fun hc4 => ?_)
 ·replace h := ite_t hc4 h
  refine aw_rs ?_
  refine .a rfl ?_
  refine .nil (aq_then ?_)
  refine aw_ret ?_
  refine aq_then_ret ?_
  obtain rfl := Option.some.inj h
  exact aq_finp hb0 rfl (.tmp rfl (by rfl) .nil) (by rfl) rfl ⟨rfl, rfl⟩
 replace h := ite_f hc4 h
 refine aw_skip ?_
 refine aq_then ?_
 refine aw_seq ?_
 refine aw_rs ?_
 refine .v (f_fieldAddr (n := 0) (by rfl) fl90_0 (by decide)) rfl (.c rfl .nil) .nil ?_
 refine .l 1 (0 + 0) [0] (.d (eGTree a0)) (.d (eL88 a0.Nodes)) ty88 ?_
 refine .v (f_lenD (n := (a0.Nodes).length) (by rfl) sl88 rfl (by simp)) rfl (.c rfl .nil) .nil ?_
 refine .m rfl ?_
 refine .nil (aq_then ?_)
 refine aw_block ?_
 refine aw_weak (s' := ⟨[(1, .ptr 1 0 []), (25, .d (eL88 a0.Nodes)), (26, .d (.val (.int .i64 ((a0.Nodes).length : Int)))), (27, .d (.val (.int .i64 (0 : Int))))], [(1, .av (.d (eGTree a0)))], []⟩) id hb0 (.keep rfl (.keep rfl (.keep rfl (.keep rfl .nil)))) (.keep rfl .nil) rfl (by rfl) ?_
 obtain ⟨o12, ho13, h⟩ := bind_some h
 refine aw_loopX (σ := Int) (fun z => ⟨[(1, .ptr 1 0 []), (25, .d (eL88 a0.Nodes)), (26, .d (.val (.int .i64 ((a0.Nodes).length : Int)))), (27, .d (.val (.int .i64 z)))], [(1, .av (.d (eGTree a0)))], []⟩) (Sum.elim (fun _ => .exit 0) (fun _ => .ret)) (Sum.elim (fun j12 => ⟨[(1, .ptr 1 0 [])], [(1, .av (.d (eGTree a0)))], []⟩) (fun j12 => ⟨[(2, .d (.val (.int .i64 (8 : Int))))], [], []⟩)) ho13 (by intro b; rcases b with _ | _ <;> rfl) ?_ ?_
 ·clear h ho13
  intro z0_0 o h
  change F129_tree_Check_s0 n a0 z0_0 = some o at h
  unfold F129_tree_Check_s0 at h
  show AW _ _ _ ⟨[(1, .ptr 1 0 []), (25, .d (eL88 a0.Nodes)), (26, .d (.val (.int .i64 ((a0.Nodes).length : Int)))), (27, .d (.val (.int .i64 z0_0)))], [(1, .av (.d (eGTree a0)))], []⟩
  refine aw_rs ?_
  refine .b rfl rfl rfl ?_
  refine .nil (aq_then ?_)
  refine aw_seq ?_
  refine aw_cond rfl (fun hc5 => ?_) (fun hc5 => ?_)
  ·replace h := ite_t hc5 h
   refine aw_skip ?_
   refine aq_then ?_
   refine aw_seq ?_
   refine aw_block ?_
   refine aw_rs ?_
   refine .m rfl ?_
   obtain ⟨x6, hx7, h⟩ := bind_some h
   obtain ⟨hx8, hx7⟩ := rd_some hx7
   refine .v (f_indexS (by rfl) sl88 hx8 (rd_map _ hx7)) rfl (.c rfl (.c rfl .nil)) .nil ?_
   refine .v (f_loadR (z := (eGNode x6)) (by rfl) ty141) rfl (.c rfl .nil) .nil ?_
   refine .n (f_alloc 4 (by rfl) zrv141) rfl .nil rfl ?_
   refine .a rfl ?_
   refine .s (f_store (n := 0) (o := 4) (off := 0) (p := []) (c := .st [.d (.val (.bool false)), .d (eA22 (List.replicate 32 (0 : Int))), .d (.val (.slice none 0 0)), .d (.val (.int .i64 (0 : Int))), .d (.val (.int .i64 (0 : Int)))]) (old := .st [.d (.val (.bool false)), .d (eA22 (List.replicate 32 (0 : Int))), .d (.val (.slice none 0 0)), .d (.val (.int .i64 (0 : Int))), .d (.val (.int .i64 (0 : Int)))]) (z := .d (eGNode x6)) (c' := .d (eGNode x6)) rfl rfl (by rfl) ty141 (by rfl)) rfl (.c rfl (.c rfl .nil)) (.cons rfl .nil) ?_
   refine .z ?_
   refine .l 4 0 [] (.d (eGNode x6)) (.d (eGNode x6)) ty141 ?_
   refine .m rfl ?_
   obtain ⟨y9, hy10, h⟩ := bind_some h
   refine .v (f_callP hgl (by rfl) en153 rfl (by rfl) (by rfl) (by rfl) (F153_tree_one_ok hy10)) rfl (.c rfl (.c rfl .nil)) .nil ?_
   refine .v (f_not (by rfl)) rfl (.c rfl .nil) .nil ?_
   refine .nil (aq_then ?_)
   refine aw_cond rfl (fun hc11 => ?_) (fun hc11 => ?_)
   ·replace h := ite_t hc11 h
    refine aw_rs ?_
    refine .a rfl ?_
    refine .nil (aq_then ?_)
    refine aw_ret ?_
    refine aq_block_ret ?_
    refine aq_then_ret ?_
    obtain rfl := Option.some.inj h
    refine aq_weak (s' := ⟨[(2, .d (.val (.int .i64 (8 : Int))))], [], []⟩) id hb0 (.keep rfl .nil) .nil rfl (by rfl) ?_
    exact jq
   replace h := ite_f hc11 h
   refine aw_skip ?_
   refine aq_block ?_
   refine aq_then ?_
   refine aw_r ?_
   refine .b rfl rfl rfl ?_
   refine .m rfl ?_
   refine .nil ?_
   obtain rfl := Option.some.inj h
   refine aq_weak (s' := ⟨[(1, .ptr 1 0 []), (25, .d (eL88 a0.Nodes)), (26, .d (.val (.int .i64 ((a0.Nodes).length : Int)))), (27, .d (.val (.int .i64 (IntKind.i64.wrap (z0_0 + (1 : Int))))))], [(1, .av (.d (eGTree a0)))], []⟩) id hb0 (.keep rfl (.keep rfl (.keep rfl (.keep rfl .nil)))) (.keep rfl .nil) rfl (by rfl) ?_
   exact jq
  replace h := ite_f hc5 h
  refine aw_exit ?_
  refine aq_then_exit ?_
  obtain rfl := Option.some.inj h
  refine aq_weak (s' := ⟨[(1, .ptr 1 0 [])], [(1, .av (.d (eGTree a0)))], []⟩) id hb0 (.keep rfl .nil) (.keep rfl .nil) rfl (by rfl) ?_
  exact jq
 rcases o12 with j12 | j12
 ·replace h := elim_l h
  refine aq_block_exit ?_
  refine aq_then ?_
  refine aw_seq ?_
  refine aw_rs ?_
  refine .l 1 0 [] (.d (eGTree a0)) (.d (eGTree a0)) ty90 ?_
  refine .v (f_fieldAddr (n := 1) (by rfl) fl90_1 (by decide)) rfl (.c rfl .nil) .nil ?_
  refine .l 1 (0 + 1) [1] (.d (eGTree a0)) (.d (.val (.int .i64 a0.Root))) ty3 ?_
  refine .v (f_build (xs := []) (z' := .d (eA22 (List.replicate 32 (0 : Int)))) (by rfl) zr23 ag23 rfl (by rfl) trivial (by rfl) (by rfl)) rfl .nil .nil ?_
  obtain ⟨y14, hy15, h⟩ := bind_some h
  refine .v (f_callP hgl (by rfl) en154 rfl (by rfl) (by rfl) (by rfl) (F154_tree_right_ok hy15)) rfl (.c rfl (.c rfl (.c rfl (.c rfl .nil)))) .nil ?_
  refine .m rfl ?_
  refine .v (f_extract (by rfl) rfl) rfl (.c rfl .nil) .nil ?_
  refine .v (f_extract (by rfl) rfl) rfl (.c rfl .nil) .nil ?_
  refine .a rfl ?_
  refine .a rfl ?_
  refine .z ?_
  refine .m rfl ?_
  refine .v (f_not (by rfl)) rfl (.c rfl .nil) .nil ?_
  refine .nil (aq_then ?_)
  refine aw_cond rfl (fun hc16 => ?_) (fun hc16 => ?_)
  ·replace h := ite_t hc16 h
   refine aw_rs ?_
   refine .a rfl ?_
   refine .nil (aq_then ?_)
   refine aw_ret ?_
   refine aq_then_ret ?_
   obtain rfl := Option.some.inj h
   exact aq_finp hb0 rfl (.tmp rfl (by rfl) .nil) (by rfl) rfl ⟨rfl, rfl⟩
  replace h := ite_f hc16 h
  refine aw_skip ?_
  refine aq_then ?_
  refine aw_rs ?_
  refine .a rfl ?_
  refine .nil (aq_then ?_)
  refine aw_ret ?_
  obtain rfl := Option.some.inj h
  exact aq_finp hb0 rfl (.tmp rfl (by rfl) .nil) (by rfl) rfl ⟨rfl, rfl⟩
 replace h := elim_r h
 refine aq_block_ret ?_
 refine aq_then_ret ?_
 obtain rfl := Option.some.inj h
 exact aq_finp hb0 rfl (.tmp rfl (by rfl) .nil) (by rfl) rfl ⟨rfl, rfl⟩

/- 157: slices.Collect[beadroll/api.Pair] -/
def F157_api_Pair_266 (n : Nat) (a0 : Int) (a1 : GTree) : Option ((List GPair)) :=
  ((F168_all n a0 a1).bind fun (y1 : List GPair) => some y1)
theorem F157_api_Pair_266_ok {n : Nat} {a0 : Int} {a1 : GTree} {r : (List GPair)} (h : F157_api_Pair_266 n a0 a1 = some r) :
    ACall Tryd.prog GS 157 [.fn (.func 169) [] [.ptr 0 0 [], .ptr 1 0 []]] [(0, .av (.d (.val (.int .i64 a0)))), (1, .av (.d (eGTree a1)))] (fun r' hp' => r' = .d (eL175 r) ∧ hp' = [(0, .av (.d (.val (.int .i64 a0)))), (1, .av (.d (eGTree a1)))]) := by
 refine acall_of_body mixed Tryd.func157 rfl (by rfl) ?_
 intro C hro hgl hb0
 unfold F157_api_Pair_266 at h
 refine aw_rs ?_
 refine .a rfl ?_
 refine .z ?_
 refine .m rfl ?_
 obtain ⟨y1, hy2, h⟩ := bind_some h
 refine .w (f_callG0 (xs := [.d (.val (.slice none 0 0)), .fn (.func 169) [] [.ptr 0 0 [], .ptr 1 0 []]]) (r := .d (eL175 y1)) (fun i => i) [] hgl (by rfl) (cal_f en168) rfl (by rfl) (by rfl) (by rfl) (by rfl) (.cons (.same _) (.cons (.same _) .nil)) rfl rfl (F168_all_ok hy2)) rfl (.c rfl (.c rfl .nil)) (.cons rfl (.cons rfl .nil)) .nil ?_
 refine .a rfl ?_
 refine .nil (aq_then ?_)
 refine aw_ret ?_
 obtain rfl := Option.some.inj h
 refine aq_weak (s' := ⟨[(2, .d (eL175 y1))], [(0, .av (.d (.val (.int .i64 a0)))), (1, .av (.d (eGTree a1)))], []⟩) id hb0 (.keep rfl .nil) (.keep rfl (.keep rfl .nil)) rfl (by rfl) ?_
 exact aq_fin1 (.tmp rfl (by rfl) .nil) rfl ⟨rfl, rfl⟩

/- 135: beadroll/tree.Pairs -/
def F135_tree_Pairs (n : Nat) (a0 : GTree) : Option ((List GPair) × Int) :=
  ((F129_tree_Check n a0).bind fun (y1 : Int) => (if (y1 != (0 : Int)) = true then some ([], y1) else ((F158_tree_each n a0 a0.Root).bind fun (y4 : Int × GTree) => ((F157_api_Pair_266 n y4.1 y4.2).bind fun (y6 : (List GPair)) => some (y6, (0 : Int))))))
theorem F135_tree_Pairs_ok {n : Nat} {a0 : GTree} {r : (List GPair) × Int} (h : F135_tree_Pairs n a0 = some r) :
    ACall Tryd.prog GS 135 [.d (eGTree a0)] [] (fun r' hp' => r' = .res [.d (eL175 r.1), .d (.val (.int .i64 r.2))] ∧ hp' = []) := by
 refine acall_of_body mixed Tryd.func135 rfl (by rfl) ?_
 intro C hro hgl hb0
 unfold F135_tree_Pairs at h
 refine aw_rs ?_
 refine .n (f_box 1 (by rfl) (by rfl)) rfl (.c rfl .nil) rfl ?_
 refine .a rfl ?_
 refine .a rfl ?_
 refine .nil (aq_then ?_)
 refine aw_seq ?_
 refine aw_rs ?_
 refine .l 1 0 [] (.d (eGTree a0)) (.d (eGTree a0)) ty90 ?_
 obtain ⟨y1, hy2, h⟩ := bind_some h
 refine .v (f_callP hgl (by rfl) en129 rfl (by rfl) (by rfl) (by rfl) (F129_tree_Check_ok hy2)) rfl (.c rfl .nil) .nil ?_
 refine .a rfl ?_
 refine .z ?_
 refine .m rfl ?_
 refine .b rfl rfl rfl ?_
 refine .nil (aq_then ?_)
 refine aw_cond rfl (fun hc3 => ?_) (fun hc3 => ?_)
 ·replace h := ite_t hc3 h
  refine aw_rs ?_
  refine .m rfl ?_
  refine .a rfl ?_
  refine .a rfl ?_
  refine .nil (aq_then ?_)
  refine aw_ret ?_
  refine aq_then_ret ?_
  obtain rfl := Option.some.inj h
  refine aq_freeze [] [(2, .d (eL175 ([]))), (3, .d (.val (.int .i64 y1)))] .nil (.cons rfl .nil (.keep rfl .nil)) ?_
  exact aq_finp hb0 rfl (.tmp rfl (by rfl) (.tmp rfl (by rfl) .nil)) (by rfl) rfl ⟨rfl, rfl⟩
 replace h := ite_f hc3 h
 refine aw_skip ?_
 refine aq_then ?_
 refine aw_rs ?_
 refine .l 1 0 [] (.d (eGTree a0)) (.d (eGTree a0)) ty90 ?_
 refine .v (f_fieldAddr (n := 1) (by rfl) fl90_1 (by decide)) rfl (.c rfl .nil) .nil ?_
 refine .l 1 (0 + 1) [1] (.d (eGTree a0)) (.d (.val (.int .i64 a0.Root))) ty3 ?_
 obtain ⟨y4, hy5, h⟩ := bind_some h
 refine .w (f_callG (xs := [.d (eGTree a0), .d (.val (.int .i64 a0.Root))]) (r := .fn (.func 169) [] [.ptr 1059 0 [], .ptr 1060 0 []]) (hw := [(1059, .av (.d (.val (.int .i64 y4.1)))), (1060, .av (.d (eGTree y4.2)))]) (fun i => bif Nat.beq i 2 then 1060 else (bif Nat.beq i 3 then 1059 else i)) [] hgl (by rfl) (cal_f en158) rfl (by rfl) (by rfl) (by rfl) (by rfl) (.cons (.same _) (.cons (.same _) .nil)) rfl rfl rfl rfl (F158_tree_each_ok hy5)) rfl (.c rfl (.c rfl .nil)) .nil (.cons rfl (.cons rfl .nil)) ?_
 obtain ⟨y6, hy7, h⟩ := bind_some h
 refine .w (f_callG0 (xs := [.fn (.func 169) [] [.ptr 1059 0 [], .ptr 1060 0 []]]) (r := .d (eL175 y6)) (fun i => bif Nat.beq i 1 then 1060 else (bif Nat.beq i 0 then 1059 else i)) [] hgl (by rfl) (cal_f en157) rfl (by rfl) (by rfl) (by rfl) (by rfl) (.cons (.same _) .nil) rfl rfl (F157_api_Pair_266_ok hy7)) rfl (.c rfl .nil) (.cons rfl (.cons rfl .nil)) .nil ?_
 refine .a rfl ?_
 refine .a rfl ?_
 refine .nil (aq_then ?_)
 refine aw_ret ?_
 obtain rfl := Option.some.inj h
 exact aq_finp hb0 rfl (.tmp rfl (by rfl) (.tmp rfl (by rfl) .nil)) (by rfl) rfl ⟨rfl, rfl⟩

/- 132: beadroll/num.Take -/
def F132_num_Take_s0 (a0 : (List Int)) (a1 : Int) (z0_0 : Int) (z0_1 : Int) : Option ((Int × Int) ⊕ (Int)) :=
  (if (decide (z0_1 < ((((a0).take (a1).toNat)).length : Int))) = true then ((rd ((a0).take (a1).toNat) z0_1).bind fun (x7 : Int) => some (.inl ((bOr .u64 (shl .u64 z0_0 (8 : Int)) (IntKind.u64.wrap x7)), (IntKind.i64.wrap (z0_1 + (1 : Int)))))) else some (.inr z0_0))
def F132_num_Take (n : Nat) (a0 : (List Int)) (a1 : Int) : Option (Int × (List Int) × Int) :=
  (((if (decide (a1 < (1 : Int))) = true then some true else some (decide (a1 > (8 : Int))))).bind fun (o2 : Bool) => (if o2 = true then some ((0 : Int), [], (2 : Int)) else (if (decide (((a0).length : Int) < a1)) = true then some ((0 : Int), [], (10 : Int)) else (if 0 ≤ (0 : Int) ∧ (0 : Int) ≤ a1 ∧ a1 ≤ ((a0).length : Int) then ((loopF (fun (z : Int × Int) => F132_num_Take_s0 a0 a1 z.1 z.2) n ((0 : Int), (0 : Int))).bind fun (o10 : Int) => (if 0 ≤ a1 ∧ a1 ≤ ((a0).length : Int) ∧ ((a0).length : Int) ≤ ((a0).length : Int) then ((F131_Clone n ((a0).drop (a1).toNat)).bind fun (y13 : List Int) => some (o10, y13, (0 : Int))) else none)) else none))))
theorem F132_num_Take_ok {n : Nat} {a0 : (List Int)} {a1 : Int} {r : Int × (List Int) × Int} (h : F132_num_Take n a0 a1 = some r) :
    ACall Tryd.prog GS 132 [.d (eL139 a0), .d (.val (.int .i64 a1))] [] (fun r' hp' => r' = .res [.d (.val (.int .u64 r.1)), .d (eL139 r.2.1), .d (.val (.int .i64 r.2.2))] ∧ hp' = []) := by
 refine acall_of_body mixed Tryd.func132 rfl (by rfl) ?_
 intro C hro hgl hb0
 unfold F132_num_Take at h
 refine aw_rs ?_
 refine .a rfl ?_
 refine .a rfl ?_
 refine .a rfl ?_
 refine .nil (aq_then ?_)
 refine aw_seq ?_
 refine aw_block ?_
 refine aw_seq ?_
 obtain ⟨o2, ho15, h⟩ := bind_some h
 refine aw_join (.normal) ⟨[(0, .d (eL139 a0)), (1, .d (.val (.int .i64 a1))), (4, .d (.val (.int .u64 (0 : Int)))), (9, .d (.val (.bool o2)))], [], []⟩ ?_ ?_
 ·replace h := ho15
  refine aw_r ?_
  refine .m rfl ?_
  refine .b rfl rfl rfl ?_
  refine .m rfl ?_
  rcases Bool.eq_false_or_eq_true (decide (a1 < (1 : Int))) with hc1 | hc1
  ·replace h := ite_t hc1 h
   refine .off rfl rfl rfl hc1 rfl (by rfl) ?_
   refine .off rfl rfl rfl hc1 rfl (by rfl) ?_
   refine .v (f_pick_true (by rfl) hc1) rfl (.c rfl (.c rfl .nil)) .nil ?_
   refine .a rfl ?_
   refine .nil ?_
   obtain rfl := Option.some.inj h
   refine aq_weak (s' := ⟨[(0, .d (eL139 a0)), (1, .d (.val (.int .i64 a1))), (4, .d (.val (.int .u64 (0 : Int)))), (9, .d (.val (.bool true)))], [], []⟩) id hb0 (.keep rfl (.keep rfl (.keep rfl (.keep rfl .nil)))) .nil rfl (by rfl) ?_
   exact jq
  replace h := ite_f hc1 h
  refine .gv (f_move (by rfl)) rfl rfl rfl hc1 (.c rfl .nil) .nil ?_
  refine .gv (f_binI (by rfl) rfl (by rfl)) rfl rfl rfl hc1 (.c rfl (.c rfl .nil)) .nil ?_
  refine .v (f_pick_false (by rfl) hc1) rfl (.c rfl (.c rfl .nil)) .nil ?_
  refine .a rfl ?_
  refine .nil ?_
  obtain rfl := Option.some.inj h
  refine aq_weak (s' := ⟨[(0, .d (eL139 a0)), (1, .d (.val (.int .i64 a1))), (4, .d (.val (.int .u64 (0 : Int)))), (9, .d (.val (.bool (decide (a1 > (8 : Int))))))], [], []⟩) id hb0 (.keep rfl (.keep rfl (.keep rfl (.keep rfl .nil)))) .nil rfl (by rfl) ?_
  exact jq
 refine aq_then ?_
 refine aw_cond rfl (fun hc3 => ?_) (fun hc3 => ?_)
 ·replace h := ite_t hc3 h
  refine aw_rs ?_
  refine .a rfl ?_
  refine .a rfl ?_
  refine .a rfl ?_
  refine .nil (aq_then ?_)
  refine aw_ret ?_
  refine aq_block_ret ?_
  refine aq_then_ret ?_
  obtain rfl := Option.some.inj h
  refine aq_freeze [] [(4, .d (.val (.int .u64 (0 : Int)))), (5, .d (eL139 ([]))), (6, .d (.val (.int .i64 (2 : Int))))] .nil (.keep rfl (.cons rfl .nil (.keep rfl .nil))) ?_
  exact aq_finp hb0 rfl (.tmp rfl (by rfl) (.tmp rfl (by rfl) (.tmp rfl (by rfl) .nil))) (by rfl) rfl ⟨rfl, rfl⟩
 replace h := ite_f hc3 h
 refine aw_rs ?_
 refine .m rfl ?_
 refine .v (f_lenD (n := (a0).length) (by rfl) sl139 rfl (by simp)) rfl (.c rfl .nil) .nil ?_
 refine .m rfl ?_
 refine .b rfl rfl rfl ?_
 refine .a rfl ?_
 refine .nil (aq_then ?_)
 refine aw_cond rfl (fun hc4 => ?_) (fun hc4 => ?_)
 ·replace h := ite_t hc4 h
  refine aw_rs ?_
  refine .a rfl ?_
  refine .a rfl ?_
  refine .a rfl ?_
  refine .nil (aq_then ?_)
  refine aw_ret ?_
  refine aq_block_ret ?_
  refine aq_then_ret ?_
  obtain rfl := Option.some.inj h
  refine aq_freeze [] [(4, .d (.val (.int .u64 (0 : Int)))), (5, .d (eL139 ([]))), (6, .d (.val (.int .i64 (10 : Int))))] .nil (.keep rfl (.cons rfl .nil (.keep rfl .nil))) ?_
  exact aq_finp hb0 rfl (.tmp rfl (by rfl) (.tmp rfl (by rfl) (.tmp rfl (by rfl) .nil))) (by rfl) rfl ⟨rfl, rfl⟩
 replace h := ite_f hc4 h
 refine aw_skip ?_
 refine aq_block ?_
 refine aq_then ?_
 refine aw_seq ?_
 refine aw_rs ?_
 refine .m rfl ?_
 refine .m rfl ?_
 refine .m rfl ?_
 obtain ⟨hb5, h⟩ := ifp h
 refine .v (f_sliceDM (k1 := .i64) (k2 := .i64) (k3 := .i64) (i := (0 : Int)) (j := a1) (xs := (a0).map eI_u8) (zs := ((a0).take (a1).toNat).map eI_u8) (by rfl) sl139 (by intro hx; first | rfl | cases hx) hb5.1 hb5.2.1 (by rw [List.length_map]; exact hb5.2.2) (by simp [List.map_take, List.map_drop])) rfl (.c rfl (.c rfl (.c rfl .nil))) .nil ?_
 refine .v (f_lenD (n := (((a0).take (a1).toNat)).length) (by rfl) sl139 rfl (by simp)) rfl (.c rfl .nil) .nil ?_
 refine .m rfl ?_
 refine .nil (aq_then ?_)
 refine aw_block ?_
 refine aw_weak (s' := ⟨[(0, .d (eL139 a0)), (1, .d (.val (.int .i64 a1))), (4, .d (.val (.int .u64 (0 : Int)))), (24, .d (eL139 ((a0).take (a1).toNat))), (25, .d (.val (.int .i64 ((((a0).take (a1).toNat)).length : Int)))), (26, .d (.val (.int .i64 (0 : Int))))], [], []⟩) id hb0 (.keep rfl (.keep rfl (.keep rfl (.keep rfl (.keep rfl (.keep rfl .nil)))))) .nil rfl (by rfl) ?_
 obtain ⟨o10, ho11, h⟩ := bind_some h
 refine aw_loopX (σ := Int × Int) (fun z => ⟨[(0, .d (eL139 a0)), (1, .d (.val (.int .i64 a1))), (4, .d (.val (.int .u64 z.1))), (24, .d (eL139 ((a0).take (a1).toNat))), (25, .d (.val (.int .i64 ((((a0).take (a1).toNat)).length : Int)))), (26, .d (.val (.int .i64 z.2)))], [], []⟩) (fun _ => (.exit 1)) (fun (o10 : Int) => ⟨[(0, .d (eL139 a0)), (1, .d (.val (.int .i64 a1))), (4, .d (.val (.int .u64 o10)))], [], []⟩) ho11 (fun _ => rfl) ?_ ?_
 ·clear h ho11
  rintro ⟨z0_0, z0_1⟩ o h
  change F132_num_Take_s0 a0 a1 z0_0 z0_1 = some o at h
  unfold F132_num_Take_s0 at h
  show AW _ _ _ ⟨[(0, .d (eL139 a0)), (1, .d (.val (.int .i64 a1))), (4, .d (.val (.int .u64 z0_0))), (24, .d (eL139 ((a0).take (a1).toNat))), (25, .d (.val (.int .i64 ((((a0).take (a1).toNat)).length : Int)))), (26, .d (.val (.int .i64 z0_1)))], [], []⟩
  refine aw_rs ?_
  refine .b rfl rfl rfl ?_
  refine .nil (aq_then ?_)
  refine aw_seq ?_
  refine aw_cond rfl (fun hc6 => ?_) (fun hc6 => ?_)
  ·replace h := ite_t hc6 h
   refine aw_skip ?_
   refine aq_then ?_
   refine aw_seq ?_
   refine aw_block ?_
   refine aw_rs ?_
   obtain ⟨x7, hx8, h⟩ := bind_some h
   obtain ⟨hx9, hx8⟩ := rd_some hx8
   refine .v (f_indexS (by rfl) sl139 hx9 (rd_map _ hx8)) rfl (.c rfl (.c rfl .nil)) .nil ?_
   refine .v (f_loadR (z := (.val (.int .u8 x7))) (by rfl) ty5) rfl (.c rfl .nil) .nil ?_
   refine .a rfl ?_
   refine .nil (aq_then ?_)
   refine aw_r ?_
   refine .m rfl ?_
   refine .v (f_shift (by rfl) (shl_ok (by decide)) (by rfl)) rfl (.c rfl (.c rfl .nil)) .nil ?_
   refine .m rfl ?_
   refine .v (f_convI (by rfl) un5 un27) rfl (.c rfl .nil) .nil ?_
   refine .v (f_binI (r := .int .u64 (bOr .u64 (shl .u64 z0_0 (8 : Int)) (IntKind.u64.wrap x7))) (by rfl) rfl (by rfl)) rfl (.c rfl (.c rfl .nil)) .nil ?_
   refine .a rfl ?_
   refine .nil ?_
   refine aq_block ?_
   refine aq_then ?_
   refine aw_r ?_
   refine .b rfl rfl rfl ?_
   refine .m rfl ?_
   refine .nil ?_
   obtain rfl := Option.some.inj h
   refine aq_weak (s' := ⟨[(0, .d (eL139 a0)), (1, .d (.val (.int .i64 a1))), (4, .d (.val (.int .u64 (bOr .u64 (shl .u64 z0_0 (8 : Int)) (IntKind.u64.wrap x7))))), (24, .d (eL139 ((a0).take (a1).toNat))), (25, .d (.val (.int .i64 ((((a0).take (a1).toNat)).length : Int)))), (26, .d (.val (.int .i64 (IntKind.i64.wrap (z0_1 + (1 : Int))))))], [], []⟩) id hb0 (.keep rfl (.keep rfl (.keep rfl (.keep rfl (.keep rfl (.keep rfl .nil)))))) .nil rfl (by rfl) ?_
   exact jq
  replace h := ite_f hc6 h
  refine aw_exit ?_
  refine aq_then_exit ?_
  obtain rfl := Option.some.inj h
  refine aq_weak (s' := ⟨[(0, .d (eL139 a0)), (1, .d (.val (.int .i64 a1))), (4, .d (.val (.int .u64 z0_0)))], [], []⟩) id hb0 (.keep rfl (.keep rfl (.keep rfl .nil))) .nil rfl (by rfl) ?_
  exact jq
 refine aq_block_exit ?_
 refine aq_then ?_
 refine aw_rs ?_
 refine .m rfl ?_
 refine .m rfl ?_
 refine .m rfl ?_
 obtain ⟨hb12, h⟩ := ifp h
 refine .v (f_sliceD (k1 := .i64) (k2 := .i64) (i := a1) (j := ((a0).length : Int)) (xs := (a0).map eI_u8) (zs := ((a0).drop (a1).toNat).map eI_u8) (by rfl) sl139 (by intro hx; first | rfl | cases hx) (by intro hx; first | (simp; done) | cases hx) hb12.1 hb12.2.1 (by rw [List.length_map]; exact hb12.2.2) (by simp [List.map_take, List.map_drop, List.take_of_length_le])) rfl (.c rfl (.c rfl .nil)) .nil ?_
 obtain ⟨y13, hy14, h⟩ := bind_some h
 refine .w (f_callG (xs := [.d (eL139 ((a0).drop (a1).toNat))]) (r := .slc 1061 0 ((y13).length) 1) (hw := [(1061, .av (.d (.arr 1 ((y13).length) ((y13).map eI_u8))))]) (fun i => bif Nat.beq i 0 then 1061 else i) [] hgl (by rfl) (cal_f en131) rfl (by rfl) (by rfl) (by rfl) (by rfl) (.cons (.same _) .nil) rfl rfl rfl rfl (F131_Clone_ok hy14)) rfl (.c rfl .nil) .nil (.cons rfl .nil) ?_
 refine .a rfl ?_
 refine .a rfl ?_
 refine .a rfl ?_
 refine .nil (aq_then ?_)
 refine aw_ret ?_
 obtain rfl := Option.some.inj h
 refine aq_freeze [(1061, (.arr 1 ((y13).length) ((y13).map eI_u8)))] [(4, .d (.val (.int .u64 o10))), (5, .d (eL139 y13)), (6, .d (.val (.int .i64 (0 : Int))))] (.cons rfl .nil) (.keep rfl (.cons rfl (.whole (.head _)) (.keep rfl .nil))) ?_
 exact aq_finp hb0 rfl (.tmp rfl (by rfl) (.tmp rfl (by rfl) (.tmp rfl (by rfl) .nil))) (by rfl) rfl ⟨rfl, rfl⟩

/- 52: beadroll/shard.Check -/
def F52_shard_Check_s0 (n : Nat) (a0 : GShard) (z0_0 : Int) : Option ((Int) ⊕ ((Unit) ⊕ (Unit))) :=
  (if (decide (z0_0 < ((a0.Lines).length : Int))) = true then ((rd a0.Lines z0_0).bind fun (x2 : GLine) => (((if (((x2.Txs).length : Int) == (0 : Int)) = true then some true else ((F18_queue_Check n x2).bind fun (y6 : Int) => (if (y6 != (0 : Int)) = true then some true else (if (decide (z0_0 > (0 : Int))) = true then ((rd a0.Lines (IntKind.i64.wrap (z0_0 - (1 : Int)))).bind fun (x10 : GLine) => ((F96_path_Ahead n x10.From x2.From).bind fun (y13 : Bool) => some (!y13))) else some false))))).bind fun (o15 : Bool) => (if o15 = true then some (.inr (.inr ())) else some (.inl (IntKind.i64.wrap (z0_0 + (1 : Int))))))) else some (.inr (.inl ())))
def F52_shard_Check (n : Nat) (a0 : GShard) : Option (Int) :=
  ((loopF (fun (z : Int) => F52_shard_Check_s0 n a0 z) n (0 : Int)).bind (Sum.elim (fun (j18 : Unit) => some (0 : Int)) (fun (j18 : Unit) => some (8 : Int))))
theorem F52_shard_Check_ok {n : Nat} {a0 : GShard} {r : Int} (h : F52_shard_Check n a0 = some r) :
    ACall Tryd.prog GS 52 [.d (eGShard a0)] [] (fun r' hp' => r' = .d (.val (.int .i64 r)) ∧ hp' = []) := by
 refine acall_of_body mixed Tryd.func52 rfl (by rfl) ?_
 intro C hro hgl hb0
 unfold F52_shard_Check at h
 refine aw_rs ?_
 refine .n (f_box 1 (by rfl) (by rfl)) rfl (.c rfl .nil) rfl ?_
 refine .a rfl ?_
 refine .nil (aq_then ?_)
 refine aw_seq ?_
 refine aw_rs ?_
 refine .v (f_fieldAddr (n := 0) (by rfl) fl74_0 (by decide)) rfl (.c rfl .nil) .nil ?_
 refine .l 1 (0 + 0) [0] (.d (eGShard a0)) (.d (eL72 a0.Lines)) ty72 ?_
 refine .v (f_lenD (n := (a0.Lines).length) (by rfl) sl72 rfl (by simp)) rfl (.c rfl .nil) .nil ?_
 refine .m rfl ?_
 refine .nil (aq_then ?_)
 refine aw_block ?_
 refine aw_weak (s' := ⟨[(1, .ptr 1 0 []), (6, .d (eL72 a0.Lines)), (7, .d (.val (.int .i64 ((a0.Lines).length : Int)))), (8, .d (.val (.int .i64 (0 : Int))))], [(1, .av (.d (eGShard a0)))], []⟩) id hb0 (.keep rfl (.keep rfl (.keep rfl (.keep rfl .nil)))) (.keep rfl .nil) rfl (by rfl) ?_
 obtain ⟨o18, ho19, h⟩ := bind_some h
 refine aw_loopX (σ := Int) (fun z => ⟨[(1, .ptr 1 0 []), (6, .d (eL72 a0.Lines)), (7, .d (.val (.int .i64 ((a0.Lines).length : Int)))), (8, .d (.val (.int .i64 z)))], [(1, .av (.d (eGShard a0)))], []⟩) (Sum.elim (fun _ => .exit 0) (fun _ => .ret)) (Sum.elim (fun j18 => ⟨[], [], []⟩) (fun j18 => ⟨[(2, .d (.val (.int .i64 (8 : Int))))], [], []⟩)) ho19 (by intro b; rcases b with _ | _ <;> rfl) ?_ ?_
 ·clear h ho19
  intro z0_0 o h
  change F52_shard_Check_s0 n a0 z0_0 = some o at h
  unfold F52_shard_Check_s0 at h
  show AW _ _ _ ⟨[(1, .ptr 1 0 []), (6, .d (eL72 a0.Lines)), (7, .d (.val (.int .i64 ((a0.Lines).length : Int)))), (8, .d (.val (.int .i64 z0_0)))], [(1, .av (.d (eGShard a0)))], []⟩
  refine aw_rs ?_
  refine .b rfl rfl rfl ?_
  refine .nil (aq_then ?_)
  refine aw_seq ?_
  refine aw_cond rfl (fun hc1 => ?_) (fun hc1 => ?_)
  ·replace h := ite_t hc1 h
   refine aw_skip ?_
   refine aq_then ?_
   refine aw_seq ?_
   refine aw_block ?_
   refine aw_rs ?_
   refine .m rfl ?_
   obtain ⟨x2, hx3, h⟩ := bind_some h
   obtain ⟨hx4, hx3⟩ := rd_some hx3
   refine .v (f_indexS (by rfl) sl72 hx4 (rd_map _ hx3)) rfl (.c rfl (.c rfl .nil)) .nil ?_
   refine .v (f_loadR (z := (eGLine x2)) (by rfl) ty26) rfl (.c rfl .nil) .nil ?_
   refine .n (f_alloc 4 (by rfl) zrv26) rfl .nil rfl ?_
   refine .a rfl ?_
   refine .s (f_store (n := 0) (o := 4) (off := 0) (p := []) (c := .st [.d (eA22 (List.replicate 32 (0 : Int))), .d (.val (.slice none 0 0))]) (old := .st [.d (eA22 (List.replicate 32 (0 : Int))), .d (.val (.slice none 0 0))]) (z := .d (eGLine x2)) (c' := .d (eGLine x2)) rfl rfl (by rfl) ty26 (by rfl)) rfl (.c rfl (.c rfl .nil)) (.cons rfl .nil) ?_
   refine .nil (aq_then ?_)
   refine aw_seq ?_
   obtain ⟨o15, ho17, h⟩ := bind_some h
   refine aw_join (.normal) ⟨[(1, .ptr 1 0 []), (6, .d (eL72 a0.Lines)), (7, .d (.val (.int .i64 ((a0.Lines).length : Int)))), (8, .d (.val (.int .i64 z0_0))), (38, .d (.val (.bool o15)))], [(1, .av (.d (eGShard a0)))], []⟩ ?_ ?_
   ·replace h := ho17
    refine aw_rd ?_
    refine .v (f_fieldAddr (n := 32) (by rfl) fl26_1 (by decide)) rfl (.c rfl .nil) .nil ?_
    refine .v (f_load (n := 0) (o := 4) (off := (0 + 32)) (p := [1]) (c := .d (eGLine x2)) (z := .d (eL24 x2.Txs)) (by rfl) rfl ty24 (by rfl)) rfl (.c rfl .nil) (.cons rfl .nil) ?_
    refine .v (f_lenD (n := (x2.Txs).length) (by rfl) sl24 rfl (by simp)) rfl (.c rfl .nil) .nil ?_
    refine .v (f_binI (by rfl) rfl (by rfl)) rfl (.c rfl (.c rfl .nil)) .nil ?_
    refine .v (f_move (by rfl)) rfl (.c rfl .nil) .nil ?_
    rcases Bool.eq_false_or_eq_true (((x2.Txs).length : Int) == (0 : Int)) with hc5 | hc5
    ·replace h := ite_t hc5 h
     refine .off rfl rfl rfl hc5 rfl (by rfl) ?_
     refine .off rfl rfl rfl hc5 rfl (by rfl) ?_
     refine .off rfl rfl rfl hc5 rfl (by rfl) ?_
     refine .v (f_pick_true (by rfl) hc5) rfl (.c rfl (.c rfl .nil)) .nil ?_
     refine .v (f_move (by rfl)) rfl (.c rfl .nil) .nil ?_
     refine .off rfl rfl rfl rfl rfl (by rfl) ?_
     refine .off rfl rfl rfl rfl rfl (by rfl) ?_
     refine .off rfl rfl rfl rfl rfl (by rfl) ?_
     refine .offu rfl rfl rfl rfl (by rfl) ?_
     refine .offu rfl rfl rfl rfl (by rfl) ?_
     refine .offu rfl rfl rfl rfl (by rfl) ?_
     refine .offu rfl rfl rfl rfl (by rfl) ?_
     refine .offu rfl rfl rfl rfl (by rfl) ?_
     refine .offu rfl rfl rfl rfl (by rfl) ?_
     refine .offu rfl rfl rfl rfl (by rfl) ?_
     refine .offu rfl rfl rfl rfl (by rfl) ?_
     refine .offu rfl rfl rfl rfl (by rfl) ?_
     refine .offu rfl rfl rfl rfl (by rfl) ?_
     refine .offu rfl rfl rfl rfl (by rfl) ?_
     refine .off rfl rfl rfl rfl rfl (by rfl) ?_
     refine .v (f_pick_true (by rfl) rfl) rfl (.c rfl (.c rfl .nil)) .nil ?_
     refine .nil (by kernel_rfl) ?_
     obtain rfl := Option.some.inj h
     refine aq_weak (s' := ⟨[(1, .ptr 1 0 []), (6, .d (eL72 a0.Lines)), (7, .d (.val (.int .i64 ((a0.Lines).length : Int)))), (8, .d (.val (.int .i64 z0_0))), (38, .d (.val (.bool true)))], [(1, .av (.d (eGShard a0)))], []⟩) id hb0 (.keep rfl (.keep rfl (.keep rfl (.keep rfl (.keep rfl .nil))))) (.keep rfl .nil) rfl (by rfl) ?_
     exact jq
    replace h := ite_f hc5 h
    refine .gv (f_load (n := 0) (o := 4) (off := 0) (p := []) (c := .d (eGLine x2)) (z := .d (eGLine x2)) (by rfl) rfl ty26 (by rfl)) rfl rfl rfl hc5 (.c rfl .nil) (.cons rfl .nil) ?_
    obtain ⟨y6, hy7, h⟩ := bind_some h
    refine .gv (f_callP hgl (by rfl) en18 rfl (by rfl) (by rfl) (by rfl) (F18_queue_Check_ok hy7)) rfl rfl rfl hc5 (.c rfl .nil) .nil ?_
    refine .gv (f_binI (by rfl) rfl (by rfl)) rfl rfl rfl hc5 (.c rfl (.c rfl .nil)) .nil ?_
    refine .v (f_pick_false (by rfl) hc5) rfl (.c rfl (.c rfl .nil)) .nil ?_
    refine .v (f_move (by rfl)) rfl (.c rfl .nil) .nil ?_
    rcases Bool.eq_false_or_eq_true (y6 != (0 : Int)) with hc8 | hc8
    ·replace h := ite_t hc8 h
     refine .off rfl rfl rfl hc8 rfl (by rfl) ?_
     refine .off rfl rfl rfl hc8 rfl (by rfl) ?_
     refine .off rfl rfl rfl hc8 rfl (by rfl) ?_
     refine .offu rfl rfl rfl rfl (by rfl) ?_
     refine .offu rfl rfl rfl rfl (by rfl) ?_
     refine .offu rfl rfl rfl rfl (by rfl) ?_
     refine .offu rfl rfl rfl rfl (by rfl) ?_
     refine .offu rfl rfl rfl rfl (by rfl) ?_
     refine .offu rfl rfl rfl rfl (by rfl) ?_
     refine .offu rfl rfl rfl rfl (by rfl) ?_
     refine .offu rfl rfl rfl rfl (by rfl) ?_
     refine .offu rfl rfl rfl rfl (by rfl) ?_
     refine .offu rfl rfl rfl rfl (by rfl) ?_
     refine .offu rfl rfl rfl rfl (by rfl) ?_
     refine .off rfl rfl rfl hc8 rfl (by rfl) ?_
     refine .v (f_pick_true (by rfl) hc8) rfl (.c rfl (.c rfl .nil)) .nil ?_
     refine .nil (by kernel_rfl) ?_
     obtain rfl := Option.some.inj h
     refine aq_weak (s' := ⟨[(1, .ptr 1 0 []), (6, .d (eL72 a0.Lines)), (7, .d (.val (.int .i64 ((a0.Lines).length : Int)))), (8, .d (.val (.int .i64 z0_0))), (38, .d (.val (.bool true)))], [(1, .av (.d (eGShard a0)))], []⟩) id hb0 (.keep rfl (.keep rfl (.keep rfl (.keep rfl (.keep rfl .nil))))) (.keep rfl .nil) rfl (by rfl) ?_
     exact jq
    replace h := ite_f hc8 h
    refine .gv (f_move (by rfl)) rfl rfl rfl hc8 (.c rfl .nil) .nil ?_
    refine .gv (f_binI (by rfl) rfl (by rfl)) rfl rfl rfl hc8 (.c rfl (.c rfl .nil)) .nil ?_
    refine .gv (f_move (by rfl)) rfl rfl rfl hc8 (.c rfl .nil) .nil ?_
    rcases Bool.eq_false_or_eq_true (decide (z0_0 > (0 : Int))) with hc9 | hc9
    ·replace h := ite_t hc9 h
     refine .gv (f_fieldAddr (n := 0) (by rfl) fl74_0 (by decide)) rfl rfl rfl hc9 (.c rfl .nil) .nil ?_
     refine .gv (f_load (n := 0) (o := 1) (off := (0 + 0)) (p := [0]) (c := .d (eGShard a0)) (z := .d (eL72 a0.Lines)) (by rfl) rfl ty72 (by rfl)) rfl rfl rfl hc9 (.c rfl .nil) (.cons rfl .nil) ?_
     refine .gv (f_move (by rfl)) rfl rfl rfl hc9 (.c rfl .nil) .nil ?_
     refine .gv (f_binI (by rfl) rfl (by rfl)) rfl rfl rfl hc9 (.c rfl (.c rfl .nil)) .nil ?_
     obtain ⟨x10, hx11, h⟩ := bind_some h
     obtain ⟨hx12, hx11⟩ := rd_some hx11
     refine .gv (f_indexS (by rfl) sl72 hx12 (rd_map _ hx11)) rfl rfl rfl hc9 (.c rfl (.c rfl .nil)) .nil ?_
     refine .gv (f_fieldAddrR (by rfl) fl26_0 (by decide) rfl) rfl rfl rfl hc9 (.c rfl .nil) .nil ?_
     refine .gv (f_loadR (z := (eA22 x10.From)) (by rfl) ty23) rfl rfl rfl hc9 (.c rfl .nil) .nil ?_
     refine .gv (f_fieldAddr (n := 0) (by rfl) fl26_0 (by decide)) rfl rfl rfl hc9 (.c rfl .nil) .nil ?_
     refine .gv (f_load (n := 0) (o := 4) (off := (0 + 0)) (p := [0]) (c := .d (eGLine x2)) (z := .d (eA22 x2.From)) (by rfl) rfl ty23 (by rfl)) rfl rfl rfl hc9 (.c rfl .nil) (.cons rfl .nil) ?_
     obtain ⟨y13, hy14, h⟩ := bind_some h
     refine .gv (f_callP hgl (by rfl) en96 rfl (by rfl) (by rfl) (by rfl) (F96_path_Ahead_ok hy14)) rfl rfl rfl hc9 (.c rfl (.c rfl .nil)) .nil ?_
     refine .gv (f_not (by rfl)) rfl rfl rfl hc9 (.c rfl .nil) .nil ?_
     refine .gv (f_pick_true (by rfl) hc9) rfl rfl rfl hc8 (.c rfl (.c rfl .nil)) .nil ?_
     refine .v (f_pick_false (by rfl) hc8) rfl (.c rfl (.c rfl .nil)) .nil ?_
     refine .nil (by kernel_rfl) ?_
     obtain rfl := Option.some.inj h
     refine aq_weak (s' := ⟨[(1, .ptr 1 0 []), (6, .d (eL72 a0.Lines)), (7, .d (.val (.int .i64 ((a0.Lines).length : Int)))), (8, .d (.val (.int .i64 z0_0))), (38, .d (.val (.bool (!y13))))], [(1, .av (.d (eGShard a0)))], []⟩) id hb0 (.keep rfl (.keep rfl (.keep rfl (.keep rfl (.keep rfl .nil))))) (.keep rfl .nil) rfl (by rfl) ?_
     exact jq
    replace h := ite_f hc9 h
    refine .off rfl rfl rfl hc9 rfl (by rfl) ?_
    refine .off rfl rfl rfl hc9 rfl (by rfl) ?_
    refine .off rfl rfl rfl hc9 rfl (by rfl) ?_
    refine .off rfl rfl rfl hc9 rfl (by rfl) ?_
    refine .off rfl rfl rfl hc9 rfl (by rfl) ?_
    refine .off rfl rfl rfl hc9 rfl (by rfl) ?_
    refine .off rfl rfl rfl hc9 rfl (by rfl) ?_
    refine .off rfl rfl rfl hc9 rfl (by rfl) ?_
    refine .off rfl rfl rfl hc9 rfl (by rfl) ?_
    refine .off rfl rfl rfl hc9 rfl (by rfl) ?_
    refine .off rfl rfl rfl hc9 rfl (by rfl) ?_
    refine .gv (f_pick_false (by rfl) hc9) rfl rfl rfl hc8 (.c rfl (.c rfl .nil)) .nil ?_
    refine .v (f_pick_false (by rfl) hc8) rfl (.c rfl (.c rfl .nil)) .nil ?_
    refine .nil (by kernel_rfl) ?_
    obtain rfl := Option.some.inj h
    refine aq_weak (s' := ⟨[(1, .ptr 1 0 []), (6, .d (eL72 a0.Lines)), (7, .d (.val (.int .i64 ((a0.Lines).length : Int)))), (8, .d (.val (.int .i64 z0_0))), (38, .d (.val (.bool false)))], [(1, .av (.d (eGShard a0)))], []⟩) id hb0 (.keep rfl (.keep rfl (.keep rfl (.keep rfl (.keep rfl .nil))))) (.keep rfl .nil) rfl (by rfl) ?_
    exact jq
   refine aq_then ?_
   refine aw_cond rfl (fun hc16 => ?_) (fun hc16 => ?_)
   ·replace h := ite_t hc16 h
    refine aw_rs ?_
    refine .a rfl ?_
    refine .nil (aq_then ?_)
    refine aw_ret ?_
    refine aq_block_ret ?_
    refine aq_then_ret ?_
    obtain rfl := Option.some.inj h
    refine aq_weak (s' := ⟨[(2, .d (.val (.int .i64 (8 : Int))))], [], []⟩) id hb0 (.keep rfl .nil) .nil rfl (by rfl) ?_
    exact jq
   replace h := ite_f hc16 h
   refine aw_skip ?_
   refine aq_block ?_
   refine aq_then ?_
   refine aw_r ?_
   refine .b rfl rfl rfl ?_
   refine .m rfl ?_
   refine .nil ?_
   obtain rfl := Option.some.inj h
   refine aq_weak (s' := ⟨[(1, .ptr 1 0 []), (6, .d (eL72 a0.Lines)), (7, .d (.val (.int .i64 ((a0.Lines).length : Int)))), (8, .d (.val (.int .i64 (IntKind.i64.wrap (z0_0 + (1 : Int))))))], [(1, .av (.d (eGShard a0)))], []⟩) id hb0 (.keep rfl (.keep rfl (.keep rfl (.keep rfl .nil)))) (.keep rfl .nil) rfl (by rfl) ?_
   exact jq
  replace h := ite_f hc1 h
  refine aw_exit ?_
  refine aq_then_exit ?_
  obtain rfl := Option.some.inj h
  refine aq_weak (s' := ⟨[], [], []⟩) id hb0 .nil .nil rfl (by rfl) ?_
  exact jq
 rcases o18 with j18 | j18
 ·replace h := elim_l h
  refine aq_block_exit ?_
  refine aq_then ?_
  refine aw_rs ?_
  refine .a rfl ?_
  refine .nil (aq_then ?_)
  refine aw_ret ?_
  obtain rfl := Option.some.inj h
  exact aq_finp hb0 rfl (.tmp rfl (by rfl) .nil) (by rfl) rfl ⟨rfl, rfl⟩
 replace h := elim_r h
 refine aq_block_ret ?_
 refine aq_then_ret ?_
 obtain rfl := Option.some.inj h
 exact aq_finp hb0 rfl (.tmp rfl (by rfl) .nil) (by rfl) rfl ⟨rfl, rfl⟩

/- 80: beadroll/pool.Check$1 -/
def F80_pool_Check_1_264 (n : Nat) (a0 : GLine) (a1 : (List GShard)) (a2 : Int) : Option (Bool) :=
  ((F23_pool_At n a0.From ((a1).length : Int)).bind fun (y1 : Int × Int) => some (y1.1 != a2))
theorem F80_pool_Check_1_264_ok {n : Nat} {a0 : GLine} {a1 : (List GShard)} {a2 : Int} {r : Bool} (h : F80_pool_Check_1_264 n a0 a1 a2 = some r) :
    ACall Tryd.prog GS 80 [.d (eGLine a0), .ptr 0 0 [], .ptr 1 0 []] [(0, .av (.d (eL41 a1))), (1, .av (.d (.val (.int .i64 a2))))] (fun r' hp' => r' = .d (.val (.bool r)) ∧ hp' = [(0, .av (.d (eL41 a1))), (1, .av (.d (.val (.int .i64 a2))))]) := by
 refine acall_of_body mixed Tryd.func80 rfl (by rfl) ?_
 intro C hro hgl hb0
 unfold F80_pool_Check_1_264 at h
 refine aw_rs ?_
 refine .n (f_box 3 (by rfl) (by rfl)) rfl (.c rfl .nil) rfl ?_
 refine .a rfl ?_
 refine .z ?_
 refine .v (f_fieldAddr (n := 0) (by rfl) fl26_0 (by decide)) rfl (.c rfl .nil) .nil ?_
 refine .l 3 (0 + 0) [0] (.d (eGLine a0)) (.d (eA22 a0.From)) ty23 ?_
 refine .l 0 0 [] (.d (eL41 a1)) (.d (eL41 a1)) ty41 ?_
 refine .v (f_lenD (n := (a1).length) (by rfl) sl41 rfl (by simp)) rfl (.c rfl .nil) .nil ?_
 obtain ⟨y1, hy2, h⟩ := bind_some h
 refine .v (f_callP hgl (by rfl) en23 rfl (by rfl) (by rfl) (by rfl) (F23_pool_At_ok hy2)) rfl (.c rfl (.c rfl .nil)) .nil ?_
 refine .m rfl ?_
 refine .v (f_extract (by rfl) rfl) rfl (.c rfl .nil) .nil ?_
 refine .v (f_extract (by rfl) rfl) rfl (.c rfl .nil) .nil ?_
 refine .a rfl ?_
 refine .a rfl ?_
 refine .z ?_
 refine .m rfl ?_
 refine .l 1 0 [] (.d (.val (.int .i64 a2))) (.d (.val (.int .i64 a2))) ty3 ?_
 refine .b rfl rfl rfl ?_
 refine .a rfl ?_
 refine .nil (aq_then ?_)
 refine aw_ret ?_
 obtain rfl := Option.some.inj h
 refine aq_weak (s' := ⟨[(4, .d (.val (.bool (y1.1 != a2))))], [(0, .av (.d (eL41 a1))), (1, .av (.d (.val (.int .i64 a2))))], []⟩) id hb0 (.keep rfl .nil) (.keep rfl (.keep rfl .nil)) rfl (by rfl) ?_
 exact aq_fin1 (.tmp rfl (by rfl) .nil) rfl ⟨rfl, rfl⟩

/- 112: slices.IndexFunc[[]beadroll/api.Line,beadroll/api.Line] -/
def F112_api_Line_dd1_s0 (n : Nat) (a0 : (List GLine)) (a1 : (List GShard)) (a2 : Int) (z0_0 : Int) : Option ((Int) ⊕ ((Unit) ⊕ (Int))) :=
  (if (decide (z0_0 < ((a0).length : Int))) = true then ((rd a0 z0_0).bind fun (x2 : GLine) => ((F80_pool_Check_1_264 n x2 a1 a2).bind fun (y5 : Bool) => (if y5 = true then some (.inr (.inr z0_0)) else some (.inl (IntKind.i64.wrap (z0_0 + (1 : Int))))))) else some (.inr (.inl ())))
def F112_api_Line_dd1 (n : Nat) (a0 : (List GLine)) (a1 : (List GShard)) (a2 : Int) : Option (Int) :=
  ((loopF (fun (z : Int) => F112_api_Line_dd1_s0 n a0 a1 a2 z) n (0 : Int)).bind (Sum.elim (fun (j8 : Unit) => some (-1 : Int)) (fun (j8 : Int) => some j8)))
theorem F112_api_Line_dd1_ok {n : Nat} {a0 : (List GLine)} {a1 : (List GShard)} {a2 : Int} {r : Int} (h : F112_api_Line_dd1 n a0 a1 a2 = some r) :
    ACall Tryd.prog GS 112 [.d (eL72 a0), .fn (.func 80) [] [.ptr 0 0 [], .ptr 1 0 []]] [(0, .av (.d (eL41 a1))), (1, .av (.d (.val (.int .i64 a2))))] (fun r' hp' => r' = .d (.val (.int .i64 r)) ∧ hp' = [(0, .av (.d (eL41 a1))), (1, .av (.d (.val (.int .i64 a2))))]) := by
 refine acall_of_body mixed Tryd.func112 rfl (by rfl) ?_
 intro C hro hgl hb0
 unfold F112_api_Line_dd1 at h
 refine aw_rs ?_
 refine .a rfl ?_
 refine .nil (aq_then ?_)
 refine aw_seq ?_
 refine aw_rs ?_
 refine .m rfl ?_
 refine .v (f_lenD (n := (a0).length) (by rfl) sl72 rfl (by simp)) rfl (.c rfl .nil) .nil ?_
 refine .m rfl ?_
 refine .nil (aq_then ?_)
 refine aw_block ?_
 refine aw_weak (s' := ⟨[(0, .d (eL72 a0)), (1, .fn (.func 80) [] [.ptr 0 0 [], .ptr 1 0 []]), (7, .d (.val (.int .i64 ((a0).length : Int)))), (8, .d (.val (.int .i64 (0 : Int))))], [(0, .av (.d (eL41 a1))), (1, .av (.d (.val (.int .i64 a2))))], []⟩) id hb0 (.keep rfl (.keep rfl (.keep rfl (.keep rfl .nil)))) (.keep rfl (.keep rfl .nil)) rfl (by rfl) ?_
 obtain ⟨o8, ho9, h⟩ := bind_some h
 refine aw_loopX (σ := Int) (fun z => ⟨[(0, .d (eL72 a0)), (1, .fn (.func 80) [] [.ptr 0 0 [], .ptr 1 0 []]), (7, .d (.val (.int .i64 ((a0).length : Int)))), (8, .d (.val (.int .i64 z)))], [(0, .av (.d (eL41 a1))), (1, .av (.d (.val (.int .i64 a2))))], []⟩) (Sum.elim (fun _ => .exit 0) (fun _ => .ret)) (Sum.elim (fun j8 => ⟨[], [(0, .av (.d (eL41 a1))), (1, .av (.d (.val (.int .i64 a2))))], []⟩) (fun j8 => ⟨[(4, .d (.val (.int .i64 j8)))], [(0, .av (.d (eL41 a1))), (1, .av (.d (.val (.int .i64 a2))))], []⟩)) ho9 (by intro b; rcases b with _ | _ <;> rfl) ?_ ?_
 ·clear h ho9
  intro z0_0 o h
  change F112_api_Line_dd1_s0 n a0 a1 a2 z0_0 = some o at h
  unfold F112_api_Line_dd1_s0 at h
  show AW _ _ _ ⟨[(0, .d (eL72 a0)), (1, .fn (.func 80) [] [.ptr 0 0 [], .ptr 1 0 []]), (7, .d (.val (.int .i64 ((a0).length : Int)))), (8, .d (.val (.int .i64 z0_0)))], [(0, .av (.d (eL41 a1))), (1, .av (.d (.val (.int .i64 a2))))], []⟩
  refine aw_rs ?_
  refine .b rfl rfl rfl ?_
  refine .nil (aq_then ?_)
  refine aw_seq ?_
  refine aw_cond rfl (fun hc1 => ?_) (fun hc1 => ?_)
  ·replace h := ite_t hc1 h
   refine aw_skip ?_
   refine aq_then ?_
   refine aw_seq ?_
   refine aw_block ?_
   refine aw_rs ?_
   refine .m rfl ?_
   refine .a rfl ?_
   refine .z ?_
   refine .m rfl ?_
   refine .m rfl ?_
   refine .m rfl ?_
   obtain ⟨x2, hx3, h⟩ := bind_some h
   obtain ⟨hx4, hx3⟩ := rd_some hx3
   refine .v (f_indexS (by rfl) sl72 hx4 (rd_map _ hx3)) rfl (.c rfl (.c rfl .nil)) .nil ?_
   refine .v (f_loadR (z := (eGLine x2)) (by rfl) ty26) rfl (.c rfl .nil) .nil ?_
   obtain ⟨y5, hy6, h⟩ := bind_some h
   refine .w (f_callG0 (xs := [.d (eGLine x2)]) (r := .d (.val (.bool y5))) (fun i => i) [] hgl (by rfl) (cal_v (first := []) (caps := [.ptr 0 0 [], .ptr 1 0 []]) en80) rfl (by rfl) (by rfl) (by rfl) (by rfl) (.cons (.same _) (.cons (.same _) (.cons (.same _) .nil))) rfl rfl (F80_pool_Check_1_264_ok hy6)) rfl (.c rfl (.c rfl .nil)) (.cons rfl (.cons rfl .nil)) .nil ?_
   refine .nil (aq_then ?_)
   refine aw_cond rfl (fun hc7 => ?_) (fun hc7 => ?_)
   ·replace h := ite_t hc7 h
    refine aw_rs ?_
    refine .m rfl ?_
    refine .a rfl ?_
    refine .nil (aq_then ?_)
    refine aw_ret ?_
    refine aq_block_ret ?_
    refine aq_then_ret ?_
    obtain rfl := Option.some.inj h
    refine aq_weak (s' := ⟨[(4, .d (.val (.int .i64 z0_0)))], [(0, .av (.d (eL41 a1))), (1, .av (.d (.val (.int .i64 a2))))], []⟩) id hb0 (.keep rfl .nil) (.keep rfl (.keep rfl .nil)) rfl (by rfl) ?_
    exact jq
   replace h := ite_f hc7 h
   refine aw_skip ?_
   refine aq_block ?_
   refine aq_then ?_
   refine aw_r ?_
   refine .b rfl rfl rfl ?_
   refine .m rfl ?_
   refine .nil ?_
   obtain rfl := Option.some.inj h
   refine aq_weak (s' := ⟨[(0, .d (eL72 a0)), (1, .fn (.func 80) [] [.ptr 0 0 [], .ptr 1 0 []]), (7, .d (.val (.int .i64 ((a0).length : Int)))), (8, .d (.val (.int .i64 (IntKind.i64.wrap (z0_0 + (1 : Int))))))], [(0, .av (.d (eL41 a1))), (1, .av (.d (.val (.int .i64 a2))))], []⟩) id hb0 (.keep rfl (.keep rfl (.keep rfl (.keep rfl .nil)))) (.keep rfl (.keep rfl .nil)) rfl (by rfl) ?_
   exact jq
  replace h := ite_f hc1 h
  refine aw_exit ?_
  refine aq_then_exit ?_
  obtain rfl := Option.some.inj h
  refine aq_weak (s' := ⟨[], [(0, .av (.d (eL41 a1))), (1, .av (.d (.val (.int .i64 a2))))], []⟩) id hb0 .nil (.keep rfl (.keep rfl .nil)) rfl (by rfl) ?_
  exact jq
 rcases o8 with j8 | j8
 ·replace h := elim_l h
  refine aq_block_exit ?_
  refine aq_then ?_
  refine aw_rs ?_
  refine .a rfl ?_
  refine .nil (aq_then ?_)
  refine aw_ret ?_
  obtain rfl := Option.some.inj h
  refine aq_weak (s' := ⟨[(4, .d (.val (.int .i64 (-1 : Int))))], [(0, .av (.d (eL41 a1))), (1, .av (.d (.val (.int .i64 a2))))], []⟩) id hb0 (.keep rfl .nil) (.keep rfl (.keep rfl .nil)) rfl (by rfl) ?_
  exact aq_fin1 (.tmp rfl (by rfl) .nil) rfl ⟨rfl, rfl⟩
 replace h := elim_r h
 refine aq_block_ret ?_
 refine aq_then_ret ?_
 obtain rfl := Option.some.inj h
 refine aq_weak (s' := ⟨[(4, .d (.val (.int .i64 j8)))], [(0, .av (.d (eL41 a1))), (1, .av (.d (.val (.int .i64 a2))))], []⟩) id hb0 (.keep rfl .nil) (.keep rfl (.keep rfl .nil)) rfl (by rfl) ?_
 exact aq_fin1 (.tmp rfl (by rfl) .nil) rfl ⟨rfl, rfl⟩

/- 79: slices.ContainsFunc[[]beadroll/api.Line,beadroll/api.Line] -/
def F79_api_Line_c11 (n : Nat) (a0 : (List GLine)) (a1 : (List GShard)) (a2 : Int) : Option (Bool) :=
  ((F112_api_Line_dd1 n a0 a1 a2).bind fun (y1 : Int) => some (decide (y1 ≥ (0 : Int))))
theorem F79_api_Line_c11_ok {n : Nat} {a0 : (List GLine)} {a1 : (List GShard)} {a2 : Int} {r : Bool} (h : F79_api_Line_c11 n a0 a1 a2 = some r) :
    ACall Tryd.prog GS 79 [.d (eL72 a0), .fn (.func 80) [] [.ptr 0 0 [], .ptr 1 0 []]] [(0, .av (.d (eL41 a1))), (1, .av (.d (.val (.int .i64 a2))))] (fun r' hp' => r' = .d (.val (.bool r)) ∧ hp' = [(0, .av (.d (eL41 a1))), (1, .av (.d (.val (.int .i64 a2))))]) := by
 refine acall_of_body mixed Tryd.func79 rfl (by rfl) ?_
 intro C hro hgl hb0
 unfold F79_api_Line_c11 at h
 refine aw_rs ?_
 refine .a rfl ?_
 refine .z ?_
 refine .m rfl ?_
 refine .m rfl ?_
 obtain ⟨y1, hy2, h⟩ := bind_some h
 refine .w (f_callG0 (xs := [.d (eL72 a0), .fn (.func 80) [] [.ptr 0 0 [], .ptr 1 0 []]]) (r := .d (.val (.int .i64 y1))) (fun i => i) [] hgl (by rfl) (cal_f en112) rfl (by rfl) (by rfl) (by rfl) (by rfl) (.cons (.same _) (.cons (.same _) .nil)) rfl rfl (F112_api_Line_dd1_ok hy2)) rfl (.c rfl (.c rfl .nil)) (.cons rfl (.cons rfl .nil)) .nil ?_
 refine .b rfl rfl rfl ?_
 refine .a rfl ?_
 refine .nil (aq_then ?_)
 refine aw_ret ?_
 obtain rfl := Option.some.inj h
 refine aq_weak (s' := ⟨[(4, .d (.val (.bool (decide (y1 ≥ (0 : Int))))))], [(0, .av (.d (eL41 a1))), (1, .av (.d (.val (.int .i64 a2))))], []⟩) id hb0 (.keep rfl .nil) (.keep rfl (.keep rfl .nil)) rfl (by rfl) ?_
 exact aq_fin1 (.tmp rfl (by rfl) .nil) rfl ⟨rfl, rfl⟩

/- 28: beadroll/pool.Check -/
def F28_pool_Check_s0 (n : Nat) (a0 : (List GShard)) (z0_0 : Int) : Option ((Int) ⊕ ((Unit) ⊕ (Unit))) :=
  (if (decide (z0_0 < ((a0).length : Int))) = true then ((rd a0 z0_0).bind fun (x5 : GShard) => ((((F52_shard_Check n x5).bind fun (y8 : Int) => (if (y8 != (0 : Int)) = true then some true else ((F79_api_Line_c11 n x5.Lines a0 z0_0).bind fun (y11 : Bool) => some y11)))).bind fun (o13 : Bool) => (if o13 = true then some (.inr (.inr ())) else some (.inl (IntKind.i64.wrap (z0_0 + (1 : Int))))))) else some (.inr (.inl ())))
def F28_pool_Check (n : Nat) (a0 : (List GShard)) : Option (Int) :=
  (((if (decide (((a0).length : Int) < (1 : Int))) = true then some true else some (decide (((a0).length : Int) > (8 : Int))))).bind fun (o2 : Bool) => (if o2 = true then some (8 : Int) else ((loopF (fun (z : Int) => F28_pool_Check_s0 n a0 z) n (0 : Int)).bind (Sum.elim (fun (j16 : Unit) => some (0 : Int)) (fun (j16 : Unit) => some (8 : Int))))))
theorem F28_pool_Check_ok {n : Nat} {a0 : (List GShard)} {r : Int} (h : F28_pool_Check n a0 = some r) :
    ACall Tryd.prog GS 28 [.d (eL41 a0)] [] (fun r' hp' => r' = .d (.val (.int .i64 r)) ∧ hp' = []) := by
 refine acall_of_body mixed Tryd.func28 rfl (by rfl) ?_
 intro C hro hgl hb0
 unfold F28_pool_Check at h
 refine aw_rs ?_
 refine .n (f_box 1 (by rfl) (by rfl)) rfl (.c rfl .nil) rfl ?_
 refine .a rfl ?_
 refine .nil (aq_then ?_)
 refine aw_seq ?_
 refine aw_seq ?_
 obtain ⟨o2, ho18, h⟩ := bind_some h
 refine aw_join (.normal) ⟨[(1, .ptr 1 0 []), (12, .d (.val (.bool o2)))], [(1, .av (.d (eL41 a0)))], []⟩ ?_ ?_
 ·replace h := ho18
  refine aw_r ?_
  refine .l 1 0 [] (.d (eL41 a0)) (.d (eL41 a0)) ty41 ?_
  refine .v (f_lenD (n := (a0).length) (by rfl) sl41 rfl (by simp)) rfl (.c rfl .nil) .nil ?_
  refine .b rfl rfl rfl ?_
  refine .m rfl ?_
  rcases Bool.eq_false_or_eq_true (decide (((a0).length : Int) < (1 : Int))) with hc1 | hc1
  ·replace h := ite_t hc1 h
   refine .off rfl rfl rfl hc1 rfl (by rfl) ?_
   refine .off rfl rfl rfl hc1 rfl (by rfl) ?_
   refine .off rfl rfl rfl hc1 rfl (by rfl) ?_
   refine .v (f_pick_true (by rfl) hc1) rfl (.c rfl (.c rfl .nil)) .nil ?_
   refine .nil ?_
   obtain rfl := Option.some.inj h
   refine aq_weak (s' := ⟨[(1, .ptr 1 0 []), (12, .d (.val (.bool true)))], [(1, .av (.d (eL41 a0)))], []⟩) id hb0 (.keep rfl (.keep rfl .nil)) (.keep rfl .nil) rfl (by rfl) ?_
   exact jq
  replace h := ite_f hc1 h
  refine .gv (f_load (n := 0) (o := 1) (off := 0) (p := []) (c := .d (eL41 a0)) (z := .d (eL41 a0)) (by rfl) rfl ty41 (by rfl)) rfl rfl rfl hc1 (.c rfl .nil) (.cons rfl .nil) ?_
  refine .gv (f_lenD (n := (a0).length) (by rfl) sl41 rfl (by simp)) rfl rfl rfl hc1 (.c rfl .nil) .nil ?_
  refine .gv (f_binI (by rfl) rfl (by rfl)) rfl rfl rfl hc1 (.c rfl (.c rfl .nil)) .nil ?_
  refine .v (f_pick_false (by rfl) hc1) rfl (.c rfl (.c rfl .nil)) .nil ?_
  refine .nil ?_
  obtain rfl := Option.some.inj h
  refine aq_weak (s' := ⟨[(1, .ptr 1 0 []), (12, .d (.val (.bool (decide (((a0).length : Int) > (8 : Int))))))], [(1, .av (.d (eL41 a0)))], []⟩) id hb0 (.keep rfl (.keep rfl .nil)) (.keep rfl .nil) rfl (by rfl) ?_
  exact jq
 refine aq_then ?_
 refine aw_cond rfl (fun hc3 => ?_) (fun hc3 => ?_)
 ·replace h := ite_t hc3 h
  refine aw_rs ?_
  refine .a rfl ?_
  refine .nil (aq_then ?_)
  refine aw_ret ?_
  refine aq_then_ret ?_
  obtain rfl := Option.some.inj h
  exact aq_finp hb0 rfl (.tmp rfl (by rfl) .nil) (by rfl) rfl ⟨rfl, rfl⟩
 replace h := ite_f hc3 h
 refine aw_skip ?_
 refine aq_then ?_
 refine aw_seq ?_
 refine aw_rs ?_
 refine .l 1 0 [] (.d (eL41 a0)) (.d (eL41 a0)) ty41 ?_
 refine .v (f_lenD (n := (a0).length) (by rfl) sl41 rfl (by simp)) rfl (.c rfl .nil) .nil ?_
 refine .m rfl ?_
 refine .nil (aq_then ?_)
 refine aw_block ?_
 refine aw_weak (s' := ⟨[(1, .ptr 1 0 []), (13, .d (eL41 a0)), (14, .d (.val (.int .i64 ((a0).length : Int)))), (15, .d (.val (.int .i64 (0 : Int))))], [(1, .av (.d (eL41 a0)))], []⟩) id hb0 (.keep rfl (.keep rfl (.keep rfl (.keep rfl .nil)))) (.keep rfl .nil) rfl (by rfl) ?_
 obtain ⟨o16, ho17, h⟩ := bind_some h
 refine aw_loopX (σ := Int) (fun z => ⟨[(1, .ptr 1 0 []), (13, .d (eL41 a0)), (14, .d (.val (.int .i64 ((a0).length : Int)))), (15, .d (.val (.int .i64 z)))], [(1, .av (.d (eL41 a0)))], []⟩) (Sum.elim (fun _ => .exit 0) (fun _ => .ret)) (Sum.elim (fun j16 => ⟨[], [], []⟩) (fun j16 => ⟨[(2, .d (.val (.int .i64 (8 : Int))))], [], []⟩)) ho17 (by intro b; rcases b with _ | _ <;> rfl) ?_ ?_
 ·clear h ho17
  intro z0_0 o h
  change F28_pool_Check_s0 n a0 z0_0 = some o at h
  unfold F28_pool_Check_s0 at h
  show AW _ _ _ ⟨[(1, .ptr 1 0 []), (13, .d (eL41 a0)), (14, .d (.val (.int .i64 ((a0).length : Int)))), (15, .d (.val (.int .i64 z0_0)))], [(1, .av (.d (eL41 a0)))], []⟩
  refine aw_rs ?_
  refine .b rfl rfl rfl ?_
  refine .nil (aq_then ?_)
  refine aw_seq ?_
  refine aw_cond rfl (fun hc4 => ?_) (fun hc4 => ?_)
  ·replace h := ite_t hc4 h
   refine aw_skip ?_
   refine aq_then ?_
   refine aw_seq ?_
   refine aw_block ?_
   refine aw_rs ?_
   refine .m rfl ?_
   obtain ⟨x5, hx6, h⟩ := bind_some h
   obtain ⟨hx7, hx6⟩ := rd_some hx6
   refine .v (f_indexS (by rfl) sl41 hx7 (rd_map _ hx6)) rfl (.c rfl (.c rfl .nil)) .nil ?_
   refine .v (f_loadR (z := (eGShard x5)) (by rfl) ty74) rfl (.c rfl .nil) .nil ?_
   refine .n (f_alloc 3 (by rfl) zr3) rfl .nil rfl ?_
   refine .n (f_alloc 4 (by rfl) zrv74) rfl .nil rfl ?_
   refine .s (f_store (n := 0) (o := 3) (off := 0) (p := []) (c := .d (.val (.int .i64 (0 : Int)))) (old := .d (.val (.int .i64 (0 : Int)))) (z := .d (.val (.int .i64 z0_0))) (c' := .d (.val (.int .i64 z0_0))) rfl rfl (by rfl) ty3 (by rfl)) rfl (.c rfl (.c rfl .nil)) (.cons rfl .nil) ?_
   refine .s (f_store (n := 0) (o := 4) (off := 0) (p := []) (c := .st [.d (.val (.slice none 0 0))]) (old := .st [.d (.val (.slice none 0 0))]) (z := .d (eGShard x5)) (c' := .d (eGShard x5)) rfl rfl (by rfl) ty74 (by rfl)) rfl (.c rfl (.c rfl .nil)) (.cons rfl .nil) ?_
   refine .nil (aq_then ?_)
   refine aw_seq ?_
   obtain ⟨o13, ho15, h⟩ := bind_some h
   refine aw_join (.normal) ⟨[(1, .ptr 1 0 []), (13, .d (eL41 a0)), (14, .d (.val (.int .i64 ((a0).length : Int)))), (15, .d (.val (.int .i64 z0_0))), (28, .d (.val (.bool o13)))], [(1, .av (.d (eL41 a0)))], []⟩ ?_ ?_
   ·replace h := ho15
    refine aw_r ?_
    refine .l 4 0 [] (.d (eGShard x5)) (.d (eGShard x5)) ty74 ?_
    obtain ⟨y8, hy9, h⟩ := bind_some h
    refine .v (f_callP hgl (by rfl) en52 rfl (by rfl) (by rfl) (by rfl) (F52_shard_Check_ok hy9)) rfl (.c rfl .nil) .nil ?_
    refine .b rfl rfl rfl ?_
    refine .m rfl ?_
    rcases Bool.eq_false_or_eq_true (y8 != (0 : Int)) with hc10 | hc10
    ·replace h := ite_t hc10 h
     refine .off rfl rfl rfl hc10 rfl (by rfl) ?_
     refine .off rfl rfl rfl hc10 rfl (by rfl) ?_
     refine .off rfl rfl rfl hc10 rfl (by rfl) ?_
     refine .off rfl rfl rfl hc10 rfl (by rfl) ?_
     refine .v (f_pick_true (by rfl) hc10) rfl (.c rfl (.c rfl .nil)) .nil ?_
     refine .nil ?_
     obtain rfl := Option.some.inj h
     refine aq_weak (s' := ⟨[(1, .ptr 1 0 []), (13, .d (eL41 a0)), (14, .d (.val (.int .i64 ((a0).length : Int)))), (15, .d (.val (.int .i64 z0_0))), (28, .d (.val (.bool true)))], [(1, .av (.d (eL41 a0)))], []⟩) id hb0 (.keep rfl (.keep rfl (.keep rfl (.keep rfl (.keep rfl .nil))))) (.keep rfl .nil) rfl (by rfl) ?_
     exact jq
    replace h := ite_f hc10 h
    refine .gv (f_fieldAddr (n := 0) (by rfl) fl74_0 (by decide)) rfl rfl rfl hc10 (.c rfl .nil) .nil ?_
    refine .gv (f_load (n := 0) (o := 4) (off := (0 + 0)) (p := [0]) (c := .d (eGShard x5)) (z := .d (eL72 x5.Lines)) (by rfl) rfl ty72 (by rfl)) rfl rfl rfl hc10 (.c rfl .nil) (.cons rfl .nil) ?_
    refine .gv (f_makeFunc (xs := []) (ys := [.ptr 1 0 [], .ptr 3 0 []]) (by rfl) rfl rfl (by rfl) (by rfl)) rfl rfl rfl hc10 (.c rfl (.c rfl .nil)) .nil ?_
    obtain ⟨y11, hy12, h⟩ := bind_some h
    refine .gw (f_callG0 (xs := [.d (eL72 x5.Lines), .fn (.func 80) [] [.ptr 1 0 [], .ptr 3 0 []]]) (r := .d (.val (.bool y11))) (fun i => bif Nat.beq i 1 then 3 else (bif Nat.beq i 0 then 1 else i)) [] hgl (by rfl) (cal_f en79) rfl (by rfl) (by rfl) (by rfl) (by rfl) (.cons (.same _) (.cons (.same _) .nil)) rfl rfl (F79_api_Line_c11_ok hy12)) rfl rfl rfl hc10 (.c rfl (.c rfl .nil)) (.cons rfl (.cons rfl .nil)) .nil ?_
    refine .v (f_pick_false (by rfl) hc10) rfl (.c rfl (.c rfl .nil)) .nil ?_
    refine .nil ?_
    obtain rfl := Option.some.inj h
    refine aq_weak (s' := ⟨[(1, .ptr 1 0 []), (13, .d (eL41 a0)), (14, .d (.val (.int .i64 ((a0).length : Int)))), (15, .d (.val (.int .i64 z0_0))), (28, .d (.val (.bool y11)))], [(1, .av (.d (eL41 a0)))], []⟩) id hb0 (.keep rfl (.keep rfl (.keep rfl (.keep rfl (.keep rfl .nil))))) (.keep rfl .nil) rfl (by rfl) ?_
    exact jq
   refine aq_then ?_
   refine aw_cond rfl (fun hc14 => ?_) (fun hc14 => ?_)
   ·replace h := ite_t hc14 h
    refine aw_rs ?_
    refine .a rfl ?_
    refine .nil (aq_then ?_)
    refine aw_ret ?_
    refine aq_block_ret ?_
    refine aq_then_ret ?_
    obtain rfl := Option.some.inj h
    refine aq_weak (s' := ⟨[(2, .d (.val (.int .i64 (8 : Int))))], [], []⟩) id hb0 (.keep rfl .nil) .nil rfl (by rfl) ?_
    exact jq
   replace h := ite_f hc14 h
   refine aw_skip ?_
   refine aq_block ?_
   refine aq_then ?_
   refine aw_r ?_
   refine .b rfl rfl rfl ?_
   refine .m rfl ?_
   refine .nil ?_
   obtain rfl := Option.some.inj h
   refine aq_weak (s' := ⟨[(1, .ptr 1 0 []), (13, .d (eL41 a0)), (14, .d (.val (.int .i64 ((a0).length : Int)))), (15, .d (.val (.int .i64 (IntKind.i64.wrap (z0_0 + (1 : Int))))))], [(1, .av (.d (eL41 a0)))], []⟩) id hb0 (.keep rfl (.keep rfl (.keep rfl (.keep rfl .nil)))) (.keep rfl .nil) rfl (by rfl) ?_
   exact jq
  replace h := ite_f hc4 h
  refine aw_exit ?_
  refine aq_then_exit ?_
  obtain rfl := Option.some.inj h
  refine aq_weak (s' := ⟨[], [], []⟩) id hb0 .nil .nil rfl (by rfl) ?_
  exact jq
 rcases o16 with j16 | j16
 ·replace h := elim_l h
  refine aq_block_exit ?_
  refine aq_then ?_
  refine aw_rs ?_
  refine .a rfl ?_
  refine .nil (aq_then ?_)
  refine aw_ret ?_
  obtain rfl := Option.some.inj h
  exact aq_finp hb0 rfl (.tmp rfl (by rfl) .nil) (by rfl) rfl ⟨rfl, rfl⟩
 replace h := elim_r h
 refine aq_block_ret ?_
 refine aq_then_ret ?_
 obtain rfl := Option.some.inj h
 exact aq_finp hb0 rfl (.tmp rfl (by rfl) .nil) (by rfl) rfl ⟨rfl, rfl⟩

/- 104: beadroll/acct.Read -/
def F104_acct_Read (n : Nat) (a0 : (List Int)) : Option (GAccount × Int) :=
  ((F132_num_Take n a0 (8 : Int)).bind fun (y1 : Int × (List Int) × Int) => (if (y1.2.2 != (0 : Int)) = true then some ((⟨(0 : Int), (0 : Int)⟩ : GAccount), y1.2.2) else ((F132_num_Take n y1.2.1 (8 : Int)).bind fun (y4 : Int × (List Int) × Int) => (if (y4.2.2 != (0 : Int)) = true then some ((⟨(0 : Int), (0 : Int)⟩ : GAccount), y4.2.2) else ((F133_num_End n y4.2.1).bind fun (y7 : Int) => (if (y7 != (0 : Int)) = true then some ((⟨(0 : Int), (0 : Int)⟩ : GAccount), (11 : Int)) else (if (decide ({ { (⟨(0 : Int), (0 : Int)⟩ : GAccount) with Nonce := y1.1 } with Balance := y4.1 } = (⟨(0 : Int), (0 : Int)⟩ : GAccount))) = true then some ((⟨(0 : Int), (0 : Int)⟩ : GAccount), (8 : Int)) else some ({ { (⟨(0 : Int), (0 : Int)⟩ : GAccount) with Nonce := y1.1 } with Balance := y4.1 }, (0 : Int)))))))))
theorem F104_acct_Read_ok {n : Nat} {a0 : (List Int)} {r : GAccount × Int} (h : F104_acct_Read n a0 = some r) :
    ACall Tryd.prog GS 104 [.d (eL139 a0)] [] (fun r' hp' => r' = .res [.d (eGAccount r.1), .d (.val (.int .i64 r.2))] ∧ hp' = []) := by
 refine acall_of_body mixed Tryd.func104 rfl (by rfl) ?_
 intro C hro hgl hb0
 unfold F104_acct_Read at h
 refine aw_rs ?_
 refine .n (f_alloc 2 (by rfl) zr95) rfl .nil rfl ?_
 refine .a rfl ?_
 refine .z ?_
 refine .a rfl ?_
 refine .nil (aq_then ?_)
 refine aw_seq ?_
 refine aw_rs ?_
 refine .m rfl ?_
 obtain ⟨y1, hy2, h⟩ := bind_some h
 refine .v (f_callP hgl (by rfl) en132 rfl (by rfl) (by rfl) (by rfl) (F132_num_Take_ok hy2)) rfl (.c rfl (.c rfl .nil)) .nil ?_
 refine .m rfl ?_
 refine .v (f_extract (by rfl) rfl) rfl (.c rfl .nil) .nil ?_
 refine .v (f_extract (by rfl) rfl) rfl (.c rfl .nil) .nil ?_
 refine .v (f_extract (by rfl) rfl) rfl (.c rfl .nil) .nil ?_
 refine .v (f_fieldAddr (n := 0) (by rfl) fl95_0 (by decide)) rfl (.c rfl .nil) .nil ?_
 refine .s (f_store (n := 0) (o := 2) (off := (0 + 0)) (p := [0]) (c := .d (eGAccount (⟨(0 : Int), (0 : Int)⟩ : GAccount))) (old := .d (.val (.int .u64 ((⟨(0 : Int), (0 : Int)⟩ : GAccount).Nonce)))) (z := .d (.val (.int .u64 y1.1))) (c' := .d (eGAccount ({ (⟨(0 : Int), (0 : Int)⟩ : GAccount) with Nonce := y1.1 }))) rfl rfl (by rfl) ty27 (by rfl)) rfl (.c rfl (.c rfl .nil)) (.cons rfl .nil) ?_
 refine .a rfl ?_
 refine .a rfl ?_
 refine .z ?_
 refine .m rfl ?_
 refine .b rfl rfl rfl ?_
 refine .nil (aq_then ?_)
 refine aw_cond rfl (fun hc3 => ?_) (fun hc3 => ?_)
 ·replace h := ite_t hc3 h
  refine aw_rs ?_
  refine .v (f_build (xs := []) (z' := .d (eGAccount (⟨(0 : Int), (0 : Int)⟩ : GAccount))) (by rfl) zr95 ag95 rfl (by rfl) trivial (by rfl) (by rfl)) rfl .nil .nil ?_
  refine .m rfl ?_
  refine .s (f_store (n := 0) (o := 2) (off := 0) (p := []) (c := .d (eGAccount ({ (⟨(0 : Int), (0 : Int)⟩ : GAccount) with Nonce := y1.1 }))) (old := .d (eGAccount ({ (⟨(0 : Int), (0 : Int)⟩ : GAccount) with Nonce := y1.1 }))) (z := .d (eGAccount (⟨(0 : Int), (0 : Int)⟩ : GAccount))) (c' := .d (eGAccount (⟨(0 : Int), (0 : Int)⟩ : GAccount))) rfl rfl (by rfl) ty95 (by rfl)) rfl (.c rfl (.c rfl .nil)) (.cons rfl .nil) ?_
  refine .a rfl ?_
  refine .nil (aq_then ?_)
  refine aw_ret ?_
  refine aq_then_ret ?_
  obtain rfl := Option.some.inj h
  exact aq_finp hb0 rfl (.cell rfl rfl ty95 (by rfl) (.tmp rfl (by rfl) .nil)) (by rfl) rfl ⟨rfl, rfl⟩
 replace h := ite_f hc3 h
 refine aw_skip ?_
 refine aq_then ?_
 refine aw_seq ?_
 refine aw_rs ?_
 refine .m rfl ?_
 obtain ⟨y4, hy5, h⟩ := bind_some h
 refine .v (f_callP hgl (by rfl) en132 rfl (by rfl) (by rfl) (by rfl) (F132_num_Take_ok hy5)) rfl (.c rfl (.c rfl .nil)) .nil ?_
 refine .m rfl ?_
 refine .v (f_extract (by rfl) rfl) rfl (.c rfl .nil) .nil ?_
 refine .v (f_extract (by rfl) rfl) rfl (.c rfl .nil) .nil ?_
 refine .v (f_extract (by rfl) rfl) rfl (.c rfl .nil) .nil ?_
 refine .v (f_fieldAddr (n := 1) (by rfl) fl95_1 (by decide)) rfl (.c rfl .nil) .nil ?_
 refine .s (f_store (n := 0) (o := 2) (off := (0 + 1)) (p := [1]) (c := .d (eGAccount ({ (⟨(0 : Int), (0 : Int)⟩ : GAccount) with Nonce := y1.1 }))) (old := .d (.val (.int .u64 (({ (⟨(0 : Int), (0 : Int)⟩ : GAccount) with Nonce := y1.1 }).Balance)))) (z := .d (.val (.int .u64 y4.1))) (c' := .d (eGAccount ({ { (⟨(0 : Int), (0 : Int)⟩ : GAccount) with Nonce := y1.1 } with Balance := y4.1 }))) rfl rfl (by rfl) ty27 (by rfl)) rfl (.c rfl (.c rfl .nil)) (.cons rfl .nil) ?_
 refine .a rfl ?_
 refine .a rfl ?_
 refine .z ?_
 refine .m rfl ?_
 refine .b rfl rfl rfl ?_
 refine .nil (aq_then ?_)
 refine aw_cond rfl (fun hc6 => ?_) (fun hc6 => ?_)
 ·replace h := ite_t hc6 h
  refine aw_rs ?_
  refine .v (f_build (xs := []) (z' := .d (eGAccount (⟨(0 : Int), (0 : Int)⟩ : GAccount))) (by rfl) zr95 ag95 rfl (by rfl) trivial (by rfl) (by rfl)) rfl .nil .nil ?_
  refine .m rfl ?_
  refine .s (f_store (n := 0) (o := 2) (off := 0) (p := []) (c := .d (eGAccount ({ { (⟨(0 : Int), (0 : Int)⟩ : GAccount) with Nonce := y1.1 } with Balance := y4.1 }))) (old := .d (eGAccount ({ { (⟨(0 : Int), (0 : Int)⟩ : GAccount) with Nonce := y1.1 } with Balance := y4.1 }))) (z := .d (eGAccount (⟨(0 : Int), (0 : Int)⟩ : GAccount))) (c' := .d (eGAccount (⟨(0 : Int), (0 : Int)⟩ : GAccount))) rfl rfl (by rfl) ty95 (by rfl)) rfl (.c rfl (.c rfl .nil)) (.cons rfl .nil) ?_
  refine .a rfl ?_
  refine .nil (aq_then ?_)
  refine aw_ret ?_
  refine aq_then_ret ?_
  obtain rfl := Option.some.inj h
  exact aq_finp hb0 rfl (.cell rfl rfl ty95 (by rfl) (.tmp rfl (by rfl) .nil)) (by rfl) rfl ⟨rfl, rfl⟩
 replace h := ite_f hc6 h
 refine aw_skip ?_
 refine aq_then ?_
 refine aw_seq ?_
 refine aw_block ?_
 refine aw_rs ?_
 refine .m rfl ?_
 obtain ⟨y7, hy8, h⟩ := bind_some h
 refine .v (f_callP hgl (by rfl) en133 rfl (by rfl) (by rfl) (by rfl) (F133_num_End_ok hy8)) rfl (.c rfl .nil) .nil ?_
 refine .b rfl rfl rfl ?_
 refine .a rfl ?_
 refine .nil (aq_then ?_)
 refine aw_cond rfl (fun hc9 => ?_) (fun hc9 => ?_)
 ·replace h := ite_t hc9 h
  refine aw_rs ?_
  refine .v (f_build (xs := []) (z' := .d (eGAccount (⟨(0 : Int), (0 : Int)⟩ : GAccount))) (by rfl) zr95 ag95 rfl (by rfl) trivial (by rfl) (by rfl)) rfl .nil .nil ?_
  refine .s (f_store (n := 0) (o := 2) (off := 0) (p := []) (c := .d (eGAccount ({ { (⟨(0 : Int), (0 : Int)⟩ : GAccount) with Nonce := y1.1 } with Balance := y4.1 }))) (old := .d (eGAccount ({ { (⟨(0 : Int), (0 : Int)⟩ : GAccount) with Nonce := y1.1 } with Balance := y4.1 }))) (z := .d (eGAccount (⟨(0 : Int), (0 : Int)⟩ : GAccount))) (c' := .d (eGAccount (⟨(0 : Int), (0 : Int)⟩ : GAccount))) rfl rfl (by rfl) ty95 (by rfl)) rfl (.c rfl (.c rfl .nil)) (.cons rfl .nil) ?_
  refine .a rfl ?_
  refine .nil (aq_then ?_)
  refine aw_ret ?_
  refine aq_block_ret ?_
  refine aq_then_ret ?_
  obtain rfl := Option.some.inj h
  exact aq_finp hb0 rfl (.cell rfl rfl ty95 (by rfl) (.tmp rfl (by rfl) .nil)) (by rfl) rfl ⟨rfl, rfl⟩
 replace h := ite_f hc9 h
 refine aw_rs ?_
 refine .l 2 0 [] (.d (eGAccount ({ { (⟨(0 : Int), (0 : Int)⟩ : GAccount) with Nonce := y1.1 } with Balance := y4.1 }))) (.d (eGAccount ({ { (⟨(0 : Int), (0 : Int)⟩ : GAccount) with Nonce := y1.1 } with Balance := y4.1 }))) ty95 ?_
 refine .v (f_build (xs := []) (z' := .d (eGAccount (⟨(0 : Int), (0 : Int)⟩ : GAccount))) (by rfl) zr95 ag95 rfl (by rfl) trivial (by rfl) (by rfl)) rfl .nil .nil ?_
 refine .v (f_eqlT (by rfl) (fit95 _) (fit95 _) (by rfl) (by rfl) gd95 (eq_eGAccount _ _)) rfl (.c rfl (.c rfl .nil)) .nil ?_
 refine .a rfl ?_
 refine .nil (aq_then ?_)
 refine aw_cond rfl (fun hc10 => ?_) (fun hc10 => ?_)
 ·replace h := ite_t hc10 h
  refine aw_rs ?_
  refine .v (f_build (xs := []) (z' := .d (eGAccount (⟨(0 : Int), (0 : Int)⟩ : GAccount))) (by rfl) zr95 ag95 rfl (by rfl) trivial (by rfl) (by rfl)) rfl .nil .nil ?_
  refine .s (f_store (n := 0) (o := 2) (off := 0) (p := []) (c := .d (eGAccount ({ { (⟨(0 : Int), (0 : Int)⟩ : GAccount) with Nonce := y1.1 } with Balance := y4.1 }))) (old := .d (eGAccount ({ { (⟨(0 : Int), (0 : Int)⟩ : GAccount) with Nonce := y1.1 } with Balance := y4.1 }))) (z := .d (eGAccount (⟨(0 : Int), (0 : Int)⟩ : GAccount))) (c' := .d (eGAccount (⟨(0 : Int), (0 : Int)⟩ : GAccount))) rfl rfl (by rfl) ty95 (by rfl)) rfl (.c rfl (.c rfl .nil)) (.cons rfl .nil) ?_
  refine .a rfl ?_
  refine .nil (aq_then ?_)
  refine aw_ret ?_
  refine aq_block_ret ?_
  refine aq_then_ret ?_
  obtain rfl := Option.some.inj h
  exact aq_finp hb0 rfl (.cell rfl rfl ty95 (by rfl) (.tmp rfl (by rfl) .nil)) (by rfl) rfl ⟨rfl, rfl⟩
 replace h := ite_f hc10 h
 refine aw_skip ?_
 refine aq_block ?_
 refine aq_then ?_
 refine aw_rs ?_
 refine .l 2 0 [] (.d (eGAccount ({ { (⟨(0 : Int), (0 : Int)⟩ : GAccount) with Nonce := y1.1 } with Balance := y4.1 }))) (.d (eGAccount ({ { (⟨(0 : Int), (0 : Int)⟩ : GAccount) with Nonce := y1.1 } with Balance := y4.1 }))) ty95 ?_
 refine .s (f_store (n := 0) (o := 2) (off := 0) (p := []) (c := .d (eGAccount ({ { (⟨(0 : Int), (0 : Int)⟩ : GAccount) with Nonce := y1.1 } with Balance := y4.1 }))) (old := .d (eGAccount ({ { (⟨(0 : Int), (0 : Int)⟩ : GAccount) with Nonce := y1.1 } with Balance := y4.1 }))) (z := .d (eGAccount ({ { (⟨(0 : Int), (0 : Int)⟩ : GAccount) with Nonce := y1.1 } with Balance := y4.1 }))) (c' := .d (eGAccount ({ { (⟨(0 : Int), (0 : Int)⟩ : GAccount) with Nonce := y1.1 } with Balance := y4.1 }))) rfl rfl (by rfl) ty95 (by rfl)) rfl (.c rfl (.c rfl .nil)) (.cons rfl .nil) ?_
 refine .a rfl ?_
 refine .nil (aq_then ?_)
 refine aw_ret ?_
 obtain rfl := Option.some.inj h
 exact aq_finp hb0 rfl (.cell rfl rfl ty95 (by rfl) (.tmp rfl (by rfl) .nil)) (by rfl) rfl ⟨rfl, rfl⟩

/- 67: beadroll/acct.Check -/
def F67_acct_Check_s0 (n : Nat) (y4 : (List GPair) × Int) (z0_0 : Int) : Option ((Int) ⊕ ((Unit) ⊕ (Unit))) :=
  (if (decide (z0_0 < ((y4.1).length : Int))) = true then ((rd y4.1 z0_0).bind fun (x9 : GPair) => ((F104_acct_Read n x9.Value).bind fun (y12 : GAccount × Int) => (if (!(y12.2 == (0 : Int))) = true then some (.inr (.inr ())) else some (.inl (IntKind.i64.wrap (z0_0 + (1 : Int))))))) else some (.inr (.inl ())))
def F67_acct_Check (n : Nat) (a0 : GTree) : Option (Int) :=
  ((F105_acct_each n a0).bind fun (y1 : GTree) => ((F135_tree_Pairs n y1).bind fun (y4 : (List GPair) × Int) => (if (y4.2 != (0 : Int)) = true then some (8 : Int) else ((loopF (fun (z : Int) => F67_acct_Check_s0 n y4 z) n (0 : Int)).bind (Sum.elim (fun (j16 : Unit) => some (0 : Int)) (fun (j16 : Unit) => some (8 : Int)))))))
theorem F67_acct_Check_ok {n : Nat} {a0 : GTree} {r : Int} (h : F67_acct_Check n a0 = some r) :
    ACall Tryd.prog GS 67 [.d (eGTree a0)] [] (fun r' hp' => r' = .d (.val (.int .i64 r)) ∧ hp' = []) := by
 refine acall_of_body mixed Tryd.func67 rfl (by rfl) ?_
 intro C hro hgl hb0
 unfold F67_acct_Check at h
 refine aw_rs ?_
 refine .n (f_box 1 (by rfl) (by rfl)) rfl (.c rfl .nil) rfl ?_
 refine .n (f_alloc 2 (by rfl) zr29) rfl .nil rfl ?_
 refine .nil (aq_then ?_)
 refine aw_seq ?_
 refine aw_rs ?_
 refine .l 1 0 [] (.d (eGTree a0)) (.d (eGTree a0)) ty90 ?_
 obtain ⟨y1, hy2, h⟩ := bind_some h
 refine .w (f_callG (xs := [.d (eGTree a0)]) (r := .fn (.func 134) [] [.ptr 1062 0 []]) (hw := [(1062, .av (.d (eGTree y1)))]) (fun i => bif Nat.beq i 1 then 1062 else i) [] hgl (by rfl) (cal_f en105) rfl (by rfl) (by rfl) (by rfl) (by rfl) (.cons (.same _) .nil) rfl rfl rfl rfl (F105_acct_each_ok hy2)) rfl (.c rfl .nil) .nil (.cons rfl .nil) ?_
 refine .nil (aq_then ?_)
 refine aw_block ?_
 refine aw_range 1064 1063 hro rfl Tryd.func134 rfl rfl en134 rfl rfl rfl (by rfl) ?_
 intro C3 lp3 E3 hro3 hg3 hb3 hst3 hpd3 hps3 has3 hbd3 hpin3 hend3
 refine aw_rs ?_
 refine .l 1062 0 [] (.d (eGTree y1)) (.d (eGTree y1)) ty90 ?_
 obtain ⟨y4, hy5, h⟩ := bind_some h
 refine .v (f_callP (hg3.trans hgl) (by rfl) en135 rfl (by rfl) (by rfl) (by rfl) (F135_tree_Pairs_ok hy5)) rfl (.c rfl .nil) .nil ?_
 refine .m rfl ?_
 refine .v (f_extract (by rfl) rfl) rfl (.c rfl .nil) .nil ?_
 refine .v (f_extract (by rfl) rfl) rfl (.c rfl .nil) .nil ?_
 refine .a rfl ?_
 refine .a rfl ?_
 refine .nil (aq_then ?_)
 refine aw_seq ?_
 refine aw_rs ?_
 refine .m rfl ?_
 refine .b rfl rfl rfl ?_
 refine .nil (aq_then ?_)
 refine aw_cond rfl (fun hc6 => ?_) (fun hc6 => ?_)
 ·replace h := ite_t hc6 h
  refine aw_rs ?_
  refine .m rfl ?_
  refine .v (f_build (xs := []) (z' := .d (eGAccount (⟨(0 : Int), (0 : Int)⟩ : GAccount))) (by rfl) zr95 ag95 rfl (by rfl) trivial (by rfl) (by rfl)) rfl .nil .nil ?_
  refine R.yield (L := 1063) (r := lp3) (ns2 := Tryd.f67.ntmps) (xs := [.d (eGAccount (⟨(0 : Int), (0 : Int)⟩ : GAccount)), .d (.val (.bool false))]) (wanted_plain rfl) (by rfl) rfl rfl hst3 (by rw [hps3]; rfl) rfl (by rfl) (.c rfl (.c rfl .nil)) hpin3 (by rw [hps3]; rfl) ?_
  intro C7 Y7 A7 hr7 hh7 hk7 hp7 he7 hn7
  refine aw_code has3 ?_
  rw [hps3]
  refine aw_r ?_
  refine .a rfl ?_
  refine .nil ?_
  refine hn7 _ rfl ?_
  refine aw_code hbd3 ?_
  refine aw_block ?_
  refine aw_rs ?_
  refine .m rfl ?_
  refine .v (f_not (by rfl)) rfl (.c rfl .nil) .nil ?_
  refine .nil (aq_then ?_)
  refine aw_cond rfl (fun _ => ?_) (fun hx => absurd (hx.symm.trans (not_t rfl)) (by simp))
  refine aw_rs ?_
  refine .s (f_store (n := 0) (o := 2) (off := 0) (p := []) (c := .d (.val (.int .i64 (0 : Int)))) (old := .d (.val (.int .i64 (0 : Int)))) (z := .d (.val (.int .i64 (8 : Int)))) (c' := .d (.val (.int .i64 (8 : Int)))) rfl rfl (by rfl) ty29 (by rfl)) rfl (.c rfl (.c rfl .nil)) (.cons rfl .nil) ?_
  refine .nil (aq_then ?_)
  refine aw_ret ?_
  refine aq_block_ret ?_
  refine he7 .ret (some .ret) _ rfl rfl rfl ?_
  refine .nil (aq_then ?_)
  refine aw_ret ?_
  refine aq_then_ret ?_
  refine hend3 .ret _ .done (some .ret) (.inl rfl) rfl rfl (by simp) ?_
  show AW _ .ret _ _
  refine aw_ret ?_
  refine aq_block_ret ?_
  refine aq_then_ret ?_
  obtain rfl := Option.some.inj h
  refine aq_marks (.inl rfl) ⟨rfl, trivial⟩ ?_
  exact aq_finp hb0 rfl (.cell rfl rfl ty29 (by rfl) .nil) (by rfl) rfl ⟨rfl, rfl⟩
 replace h := ite_f hc6 h
 refine aw_skip ?_
 refine aq_then ?_
 refine aw_rs ?_
 refine .m rfl ?_
 refine .v (f_lenD (n := (y4.1).length) (by rfl) sl175 rfl (by simp)) rfl (.c rfl .nil) .nil ?_
 refine .m rfl ?_
 refine .nil (aq_then ?_)
 refine aw_block ?_
 refine aw_weak (s' := ⟨[(0, .yld 1063), (19, .d (eL175 y4.1)), (20, .d (.val (.int .i64 ((y4.1).length : Int)))), (21, .d (.val (.int .i64 (0 : Int))))], [(1063, .raw (.loop lp3)), (1, .av (.d (eGTree a0))), (2, .av (.d (.val (.int .i64 (0 : Int))))), (1062, .av (.d (eGTree y1))), (1064, .raw (.deferred (some [])))], []⟩) id hb3 (.keep rfl (.keep rfl (.keep rfl (.keep rfl .nil)))) (.keepH rfl (.keep rfl (.keep rfl (.keep rfl (.keepH rfl .nil))))) rfl (by rfl) ?_
 obtain ⟨o16, ho17, h⟩ := bind_some h
 refine aw_loopX (σ := Int) (fun z => ⟨[(0, .yld 1063), (19, .d (eL175 y4.1)), (20, .d (.val (.int .i64 ((y4.1).length : Int)))), (21, .d (.val (.int .i64 z)))], [(1063, .raw (.loop lp3)), (1, .av (.d (eGTree a0))), (2, .av (.d (.val (.int .i64 (0 : Int))))), (1062, .av (.d (eGTree y1))), (1064, .raw (.deferred (some [])))], []⟩) (Sum.elim (fun _ => .exit 0) (fun _ => .ret)) (Sum.elim (fun j16 => ⟨[], [(1, .av (.d (eGTree a0))), (2, .av (.d (.val (.int .i64 (0 : Int))))), (1062, .av (.d (eGTree y1))), (1063, .raw (.loop lp3)), (1064, .raw (.deferred (some [])))], []⟩) (fun j16 => ⟨[], [(1, .av (.d (eGTree a0))), (2, .av (.d (.val (.int .i64 (8 : Int))))), (1062, .av (.d (eGTree y1))), (1063, .raw (.loop { lp3 with state := .done, pending := some .ret })), (1064, .raw (.deferred (some [])))], []⟩)) ho17 (by intro b; rcases b with _ | _ <;> rfl) ?_ ?_
 ·clear h ho17
  intro z0_0 o h
  change F67_acct_Check_s0 n y4 z0_0 = some o at h
  unfold F67_acct_Check_s0 at h
  show AW _ _ _ ⟨[(0, .yld 1063), (19, .d (eL175 y4.1)), (20, .d (.val (.int .i64 ((y4.1).length : Int)))), (21, .d (.val (.int .i64 z0_0)))], [(1063, .raw (.loop lp3)), (1, .av (.d (eGTree a0))), (2, .av (.d (.val (.int .i64 (0 : Int))))), (1062, .av (.d (eGTree y1))), (1064, .raw (.deferred (some [])))], []⟩
  refine aw_rs ?_
  refine .b rfl rfl rfl ?_
  refine .nil (aq_then ?_)
  refine aw_seq ?_
  refine aw_cond rfl (fun hc8 => ?_) (fun hc8 => ?_)
  ·replace h := ite_t hc8 h
   refine aw_skip ?_
   refine aq_then ?_
   refine aw_seq ?_
   refine aw_block ?_
   refine aw_rs ?_
   obtain ⟨x9, hx10, h⟩ := bind_some h
   obtain ⟨hx11, hx10⟩ := rd_some hx10
   refine .v (f_indexS (by rfl) sl175 hx11 (rd_map _ hx10)) rfl (.c rfl (.c rfl .nil)) .nil ?_
   refine .v (f_loadR (z := (eGPair x9)) (by rfl) ty179) rfl (.c rfl .nil) .nil ?_
   refine .n (f_alloc 6 (by rfl) zrv179) rfl .nil rfl ?_
   refine .s (f_store (n := 0) (o := 6) (off := 0) (p := []) (c := .st [.d (eA22 (List.replicate 32 (0 : Int))), .d (.val (.slice none 0 0))]) (old := .st [.d (eA22 (List.replicate 32 (0 : Int))), .d (.val (.slice none 0 0))]) (z := .d (eGPair x9)) (c' := .d (eGPair x9)) rfl rfl (by rfl) ty179 (by rfl)) rfl (.c rfl (.c rfl .nil)) (.cons rfl .nil) ?_
   refine .z ?_
   refine .v (f_fieldAddr (n := 32) (by rfl) fl179_1 (by decide)) rfl (.c rfl .nil) .nil ?_
   refine .l 6 (0 + 32) [1] (.d (eGPair x9)) (.d (eL139 x9.Value)) ty139 ?_
   obtain ⟨y12, hy13, h⟩ := bind_some h
   refine .v (f_callP (hg3.trans hgl) (by rfl) en104 rfl (by rfl) (by rfl) (by rfl) (F104_acct_Read_ok hy13)) rfl (.c rfl .nil) .nil ?_
   refine .m rfl ?_
   refine .v (f_extract (by rfl) rfl) rfl (.c rfl .nil) .nil ?_
   refine .v (f_extract (by rfl) rfl) rfl (.c rfl .nil) .nil ?_
   refine .n (f_alloc 7 (by rfl) zr95) rfl .nil rfl ?_
   refine .s (f_store (n := 0) (o := 7) (off := 0) (p := []) (c := .d (eGAccount (⟨(0 : Int), (0 : Int)⟩ : GAccount))) (old := .d (eGAccount (⟨(0 : Int), (0 : Int)⟩ : GAccount))) (z := .d (eGAccount y12.1)) (c' := .d (eGAccount y12.1)) rfl rfl (by rfl) ty95 (by rfl)) rfl (.c rfl (.c rfl .nil)) (.cons rfl .nil) ?_
   refine .a rfl ?_
   refine .z ?_
   refine .m rfl ?_
   refine .l 7 0 [] (.d (eGAccount y12.1)) (.d (eGAccount y12.1)) ty95 ?_
   refine .m rfl ?_
   refine .b rfl rfl rfl ?_
   refine R.yield (L := 1063) (r := lp3) (ns2 := Tryd.f67.ntmps) (xs := [.d (eGAccount y12.1), .d (.val (.bool (y12.2 == (0 : Int))))]) (wanted_plain rfl) (by rfl) rfl rfl hst3 (by rw [hps3]; rfl) rfl (by rfl) (.c rfl (.c rfl .nil)) hpin3 (by rw [hps3]; rfl) ?_
   intro C14 Y14 A14 hr14 hh14 hk14 hp14 he14 hn14
   refine aw_code has3 ?_
   rw [hps3]
   refine aw_r ?_
   refine .a rfl ?_
   refine .nil ?_
   refine hn14 _ rfl ?_
   refine aw_code hbd3 ?_
   refine aw_block ?_
   refine aw_rs ?_
   refine .m rfl ?_
   refine .v (f_not (by rfl)) rfl (.c rfl .nil) .nil ?_
   refine .nil (aq_then ?_)
   refine aw_cond rfl (fun hc15 => ?_) (fun hc15 => ?_)
   ·replace h := ite_t hc15 h
    refine aw_rs ?_
    refine .s (f_store (n := 0) (o := 2) (off := 0) (p := []) (c := .d (.val (.int .i64 (0 : Int)))) (old := .d (.val (.int .i64 (0 : Int)))) (z := .d (.val (.int .i64 (8 : Int)))) (c' := .d (.val (.int .i64 (8 : Int)))) rfl rfl (by rfl) ty29 (by rfl)) rfl (.c rfl (.c rfl .nil)) (.cons rfl .nil) ?_
    refine .nil (aq_then ?_)
    refine aw_ret ?_
    refine aq_block_ret ?_
    refine he14 .ret (some .ret) _ rfl rfl rfl ?_
    refine .v (f_not (by rfl)) rfl (.c rfl .nil) .nil ?_
    refine .nil (aq_then ?_)
    refine aw_cond rfl (fun _ => ?_) (fun hx => absurd (hx.symm.trans (not_t rfl)) (by simp))
    refine aw_ret ?_
    refine aq_block_ret ?_
    refine aq_then_ret ?_
    obtain rfl := Option.some.inj h
    refine aq_weak (s' := ⟨[], [(1, .av (.d (eGTree a0))), (2, .av (.d (.val (.int .i64 (8 : Int))))), (1062, .av (.d (eGTree y1))), (1063, .raw (.loop { lp3 with state := .done, pending := some .ret })), (1064, .raw (.deferred (some [])))], []⟩) id hb3 .nil (.keep rfl (.keep rfl (.keep rfl (.keepH rfl (.keepH rfl .nil))))) rfl (by rfl) ?_
    exact jq
   replace h := ite_f hc15 h
   refine aw_skip ?_
   refine aq_block ?_
   refine he14 .normal none _ rfl rfl rfl ?_
   refine R.again hst3 hpd3 ?_
   refine .v (f_not (by rfl)) rfl (.c rfl .nil) .nil ?_
   refine .nil (aq_then ?_)
   refine aw_cond rfl (fun hx => absurd (hx.symm.trans (not_f rfl)) (by simp)) (fun _ => ?_)
   refine aw_skip ?_
   refine aq_block ?_
   refine aq_then ?_
   refine aw_r ?_
   refine .b rfl rfl rfl ?_
   refine .m rfl ?_
   refine .nil ?_
   obtain rfl := Option.some.inj h
   refine aq_weak (s' := ⟨[(0, .yld 1063), (19, .d (eL175 y4.1)), (20, .d (.val (.int .i64 ((y4.1).length : Int)))), (21, .d (.val (.int .i64 (IntKind.i64.wrap (z0_0 + (1 : Int))))))], [(1063, .raw (.loop lp3)), (1, .av (.d (eGTree a0))), (2, .av (.d (.val (.int .i64 (0 : Int))))), (1062, .av (.d (eGTree y1))), (1064, .raw (.deferred (some [])))], []⟩) id hb3 (.keep rfl (.keep rfl (.keep rfl (.keep rfl .nil)))) (.keepH rfl (.keep rfl (.keep rfl (.keep rfl (.keepH rfl .nil))))) rfl (by rfl) ?_
   exact jq
  replace h := ite_f hc8 h
  refine aw_exit ?_
  refine aq_then_exit ?_
  obtain rfl := Option.some.inj h
  refine aq_weak (s' := ⟨[], [(1, .av (.d (eGTree a0))), (2, .av (.d (.val (.int .i64 (0 : Int))))), (1062, .av (.d (eGTree y1))), (1063, .raw (.loop lp3)), (1064, .raw (.deferred (some [])))], []⟩) id hb3 .nil (.keep rfl (.keep rfl (.keep rfl (.keepH rfl (.keepH rfl .nil))))) rfl (by rfl) ?_
  exact jq
 rcases o16 with j16 | j16
 ·replace h := elim_l h
  refine aq_block_exit ?_
  refine hend3 .normal _ lp3.state lp3.pending (.inr rfl) rfl rfl (by rw [hst3]; simp) ?_
  rw [hpd3]
  refine aq_block ?_
  refine aq_then ?_
  refine aw_rs ?_
  refine .s (f_store (n := 0) (o := 2) (off := 0) (p := []) (c := .d (.val (.int .i64 (0 : Int)))) (old := .d (.val (.int .i64 (0 : Int)))) (z := .d (.val (.int .i64 (0 : Int)))) (c' := .d (.val (.int .i64 (0 : Int)))) rfl rfl (by rfl) ty29 (by rfl)) rfl (.c rfl (.c rfl .nil)) (.cons rfl .nil) ?_
  refine .nil (aq_then ?_)
  refine aw_ret ?_
  obtain rfl := Option.some.inj h
  refine aq_marks (.inl rfl) ⟨rfl, trivial⟩ ?_
  exact aq_finp hb0 rfl (.cell rfl rfl ty29 (by rfl) .nil) (by rfl) rfl ⟨rfl, rfl⟩
 replace h := elim_r h
 refine aq_block_ret ?_
 refine hend3 .ret _ .done (some .ret) (.inl rfl) rfl rfl (by simp) ?_
 show AW _ .ret _ _
 refine aw_ret ?_
 refine aq_block_ret ?_
 refine aq_then_ret ?_
 obtain rfl := Option.some.inj h
 refine aq_marks (.inl rfl) ⟨rfl, trivial⟩ ?_
 exact aq_finp hb0 rfl (.cell rfl rfl ty29 (by rfl) .nil) (by rfl) rfl ⟨rfl, rfl⟩

/- 106: beadroll/pool.asked -/
def F106_pool_asked (n : Nat) (a0 : (List GShard)) (a1 : GTree) : Option (Int) :=
  ((F28_pool_Check n a0).bind fun (y1 : Int) => ((F67_acct_Check n a1).bind fun (y3 : Int) => some (if y3 > y1 then y3 else y1)))
theorem F106_pool_asked_ok {n : Nat} {a0 : (List GShard)} {a1 : GTree} {r : Int} (h : F106_pool_asked n a0 a1 = some r) :
    ACall Tryd.prog GS 106 [.d (eL41 a0), .d (eGTree a1)] [] (fun r' hp' => r' = .d (.val (.int .i64 r)) ∧ hp' = []) := by
 refine acall_of_body mixed Tryd.func106 rfl (by rfl) ?_
 intro C hro hgl hb0
 unfold F106_pool_asked at h
 refine aw_rs ?_
 refine .n (f_box 3 (by rfl) (by rfl)) rfl (.c rfl .nil) rfl ?_
 refine .a rfl ?_
 refine .nil (aq_then ?_)
 refine aw_rds ?_
 refine .v (f_move (by rfl)) rfl (.c rfl .nil) .nil ?_
 obtain ⟨y1, hy2, h⟩ := bind_some h
 refine .v (f_callP hgl (by rfl) en28 rfl (by rfl) (by rfl) (by rfl) (F28_pool_Check_ok hy2)) rfl (.c rfl .nil) .nil ?_
 refine .v (f_load (n := 0) (o := 3) (off := 0) (p := []) (c := .d (eGTree a1)) (z := .d (eGTree a1)) (by rfl) rfl ty90 (by rfl)) rfl (.c rfl .nil) (.cons rfl .nil) ?_
 obtain ⟨y3, hy4, h⟩ := bind_some h
 refine .v (f_callP hgl (by rfl) en67 rfl (by rfl) (by rfl) (by rfl) (F67_acct_Check_ok hy4)) rfl (.c rfl .nil) .nil ?_
 refine .v (f_maxI (by rfl)) rfl (.c rfl (.c rfl .nil)) .nil ?_
 refine .v (f_assign (by rfl)) rfl (.c rfl .nil) .nil ?_
 refine .nil (by kernel_rfl) ?_
 refine aw_ret ?_
 obtain rfl := Option.some.inj h
 exact aq_finp hb0 rfl (.tmp rfl (by rfl) .nil) (by rfl) rfl ⟨rfl, rfl⟩

/- 103: beadroll/tree.Get -/
def F103_tree_Get (n : Nat) (a0 : GTree) (a1 : (List Int)) : Option ((List Int) × Bool) :=
  ((F129_tree_Check n a0).bind fun (y1 : Int) => (if (y1 != (0 : Int)) = true then some ([], false) else ((F130_tree_find n a0 a1).bind fun (y4 : Int) => (if (y4 == (0 : Int)) = true then some ([], false) else ((rd a0.Nodes (IntKind.i64.wrap (y4 - (1 : Int)))).bind fun (x7 : GNode) => ((F131_Clone n x7.Value).bind fun (y10 : List Int) => some (y10, true)))))))
theorem F103_tree_Get_ok {n : Nat} {a0 : GTree} {a1 : (List Int)} {r : (List Int) × Bool} (h : F103_tree_Get n a0 a1 = some r) :
    ACall Tryd.prog GS 103 [.d (eGTree a0), .d (eA22 a1)] [] (fun r' hp' => r' = .res [.d (eL139 r.1), .d (.val (.bool r.2))] ∧ hp' = []) := by
 refine acall_of_body mixed Tryd.func103 rfl (by rfl) ?_
 intro C hro hgl hb0
 unfold F103_tree_Get at h
 refine aw_rs ?_
 refine .n (f_box 2 (by rfl) (by rfl)) rfl (.c rfl .nil) rfl ?_
 refine .n (f_box 3 (by rfl) (by rfl)) rfl (.c rfl .nil) rfl ?_
 refine .a rfl ?_
 refine .a rfl ?_
 refine .nil (aq_then ?_)
 refine aw_seq ?_
 refine aw_rs ?_
 refine .l 2 0 [] (.d (eGTree a0)) (.d (eGTree a0)) ty90 ?_
 obtain ⟨y1, hy2, h⟩ := bind_some h
 refine .v (f_callP hgl (by rfl) en129 rfl (by rfl) (by rfl) (by rfl) (F129_tree_Check_ok hy2)) rfl (.c rfl .nil) .nil ?_
 refine .b rfl rfl rfl ?_
 refine .nil (aq_then ?_)
 refine aw_cond rfl (fun hc3 => ?_) (fun hc3 => ?_)
 ·replace h := ite_t hc3 h
  refine aw_rs ?_
  refine .a rfl ?_
  refine .a rfl ?_
  refine .nil (aq_then ?_)
  refine aw_ret ?_
  refine aq_then_ret ?_
  obtain rfl := Option.some.inj h
  refine aq_freeze [] [(4, .d (eL139 ([]))), (5, .d (.val (.bool false)))] .nil (.cons rfl .nil (.keep rfl .nil)) ?_
  exact aq_finp hb0 rfl (.tmp rfl (by rfl) (.tmp rfl (by rfl) .nil)) (by rfl) rfl ⟨rfl, rfl⟩
 replace h := ite_f hc3 h
 refine aw_skip ?_
 refine aq_then ?_
 refine aw_rs ?_
 refine .l 2 0 [] (.d (eGTree a0)) (.d (eGTree a0)) ty90 ?_
 refine .l 3 0 [] (.d (eA22 a1)) (.d (eA22 a1)) ty23 ?_
 obtain ⟨y4, hy5, h⟩ := bind_some h
 refine .v (f_callP hgl (by rfl) en130 rfl (by rfl) (by rfl) (by rfl) (F130_tree_find_ok hy5)) rfl (.c rfl (.c rfl .nil)) .nil ?_
 refine .a rfl ?_
 refine .nil (aq_then ?_)
 refine aw_seq ?_
 refine aw_rs ?_
 refine .m rfl ?_
 refine .b rfl rfl rfl ?_
 refine .nil (aq_then ?_)
 refine aw_cond rfl (fun hc6 => ?_) (fun hc6 => ?_)
 ·replace h := ite_t hc6 h
  refine aw_rs ?_
  refine .a rfl ?_
  refine .a rfl ?_
  refine .nil (aq_then ?_)
  refine aw_ret ?_
  refine aq_then_ret ?_
  obtain rfl := Option.some.inj h
  refine aq_freeze [] [(4, .d (eL139 ([]))), (5, .d (.val (.bool false)))] .nil (.cons rfl .nil (.keep rfl .nil)) ?_
  exact aq_finp hb0 rfl (.tmp rfl (by rfl) (.tmp rfl (by rfl) .nil)) (by rfl) rfl ⟨rfl, rfl⟩
 replace h := ite_f hc6 h
 refine aw_skip ?_
 refine aq_then ?_
 refine aw_rs ?_
 refine .v (f_fieldAddr (n := 0) (by rfl) fl90_0 (by decide)) rfl (.c rfl .nil) .nil ?_
 refine .l 2 (0 + 0) [0] (.d (eGTree a0)) (.d (eL88 a0.Nodes)) ty88 ?_
 refine .m rfl ?_
 refine .b rfl rfl rfl ?_
 obtain ⟨x7, hx8, h⟩ := bind_some h
 obtain ⟨hx9, hx8⟩ := rd_some hx8
 refine .v (f_indexS (by rfl) sl88 hx9 (rd_map _ hx8)) rfl (.c rfl (.c rfl .nil)) .nil ?_
 refine .v (f_fieldAddrR (by rfl) fl141_2 (by decide) rfl) rfl (.c rfl .nil) .nil ?_
 refine .v (f_loadR (z := (eL139 x7.Value)) (by rfl) ty139) rfl (.c rfl .nil) .nil ?_
 obtain ⟨y10, hy11, h⟩ := bind_some h
 refine .w (f_callG (xs := [.d (eL139 x7.Value)]) (r := .slc 1065 0 ((y10).length) 1) (hw := [(1065, .av (.d (.arr 1 ((y10).length) ((y10).map eI_u8))))]) (fun i => bif Nat.beq i 0 then 1065 else i) [] hgl (by rfl) (cal_f en131) rfl (by rfl) (by rfl) (by rfl) (by rfl) (.cons (.same _) .nil) rfl rfl rfl rfl (F131_Clone_ok hy11)) rfl (.c rfl .nil) .nil (.cons rfl .nil) ?_
 refine .a rfl ?_
 refine .a rfl ?_
 refine .nil (aq_then ?_)
 refine aw_ret ?_
 obtain rfl := Option.some.inj h
 refine aq_freeze [(1065, (.arr 1 ((y10).length) ((y10).map eI_u8)))] [(4, .d (eL139 y10)), (5, .d (.val (.bool true)))] (.cons rfl .nil) (.cons rfl (.whole (.head _)) (.keep rfl .nil)) ?_
 exact aq_finp hb0 rfl (.tmp rfl (by rfl) (.tmp rfl (by rfl) .nil)) (by rfl) rfl ⟨rfl, rfl⟩

/- 64: beadroll/acct.Get -/
def F64_acct_Get (n : Nat) (a0 : GTree) (a1 : (List Int)) : Option (GAccount × Int) :=
  ((F67_acct_Check n a0).bind fun (y1 : Int) => (if (y1 != (0 : Int)) = true then some ((⟨(0 : Int), (0 : Int)⟩ : GAccount), y1) else ((F103_tree_Get n a0 a1).bind fun (y4 : (List Int) × Bool) => (if (!y4.2) = true then some ((⟨(0 : Int), (0 : Int)⟩ : GAccount), (0 : Int)) else ((F104_acct_Read n y4.1).bind fun (y7 : GAccount × Int) => some (y7.1, y7.2))))))
theorem F64_acct_Get_ok {n : Nat} {a0 : GTree} {a1 : (List Int)} {r : GAccount × Int} (h : F64_acct_Get n a0 a1 = some r) :
    ACall Tryd.prog GS 64 [.d (eGTree a0), .d (eA22 a1)] [] (fun r' hp' => r' = .res [.d (eGAccount r.1), .d (.val (.int .i64 r.2))] ∧ hp' = []) := by
 refine acall_of_body mixed Tryd.func64 rfl (by rfl) ?_
 intro C hro hgl hb0
 unfold F64_acct_Get at h
 refine aw_rs ?_
 refine .n (f_box 2 (by rfl) (by rfl)) rfl (.c rfl .nil) rfl ?_
 refine .n (f_box 3 (by rfl) (by rfl)) rfl (.c rfl .nil) rfl ?_
 refine .n (f_alloc 4 (by rfl) zr95) rfl .nil rfl ?_
 refine .a rfl ?_
 refine .nil (aq_then ?_)
 refine aw_seq ?_
 refine aw_rs ?_
 refine .l 2 0 [] (.d (eGTree a0)) (.d (eGTree a0)) ty90 ?_
 obtain ⟨y1, hy2, h⟩ := bind_some h
 refine .v (f_callP hgl (by rfl) en67 rfl (by rfl) (by rfl) (by rfl) (F67_acct_Check_ok hy2)) rfl (.c rfl .nil) .nil ?_
 refine .a rfl ?_
 refine .z ?_
 refine .m rfl ?_
 refine .b rfl rfl rfl ?_
 refine .nil (aq_then ?_)
 refine aw_cond rfl (fun hc3 => ?_) (fun hc3 => ?_)
 ·replace h := ite_t hc3 h
  refine aw_rs ?_
  refine .v (f_build (xs := []) (z' := .d (eGAccount (⟨(0 : Int), (0 : Int)⟩ : GAccount))) (by rfl) zr95 ag95 rfl (by rfl) trivial (by rfl) (by rfl)) rfl .nil .nil ?_
  refine .m rfl ?_
  refine .s (f_store (n := 0) (o := 4) (off := 0) (p := []) (c := .d (eGAccount (⟨(0 : Int), (0 : Int)⟩ : GAccount))) (old := .d (eGAccount (⟨(0 : Int), (0 : Int)⟩ : GAccount))) (z := .d (eGAccount (⟨(0 : Int), (0 : Int)⟩ : GAccount))) (c' := .d (eGAccount (⟨(0 : Int), (0 : Int)⟩ : GAccount))) rfl rfl (by rfl) ty95 (by rfl)) rfl (.c rfl (.c rfl .nil)) (.cons rfl .nil) ?_
  refine .a rfl ?_
  refine .nil (aq_then ?_)
  refine aw_ret ?_
  refine aq_then_ret ?_
  obtain rfl := Option.some.inj h
  exact aq_finp hb0 rfl (.cell rfl rfl ty95 (by rfl) (.tmp rfl (by rfl) .nil)) (by rfl) rfl ⟨rfl, rfl⟩
 replace h := ite_f hc3 h
 refine aw_skip ?_
 refine aq_then ?_
 refine aw_rs ?_
 refine .l 2 0 [] (.d (eGTree a0)) (.d (eGTree a0)) ty90 ?_
 refine .l 3 0 [] (.d (eA22 a1)) (.d (eA22 a1)) ty23 ?_
 obtain ⟨y4, hy5, h⟩ := bind_some h
 refine .v (f_callP hgl (by rfl) en103 rfl (by rfl) (by rfl) (by rfl) (F103_tree_Get_ok hy5)) rfl (.c rfl (.c rfl .nil)) .nil ?_
 refine .m rfl ?_
 refine .v (f_extract (by rfl) rfl) rfl (.c rfl .nil) .nil ?_
 refine .v (f_extract (by rfl) rfl) rfl (.c rfl .nil) .nil ?_
 refine .a rfl ?_
 refine .a rfl ?_
 refine .nil (aq_then ?_)
 refine aw_seq ?_
 refine aw_rs ?_
 refine .m rfl ?_
 refine .v (f_not (by rfl)) rfl (.c rfl .nil) .nil ?_
 refine .nil (aq_then ?_)
 refine aw_cond rfl (fun hc6 => ?_) (fun hc6 => ?_)
 ·replace h := ite_t hc6 h
  refine aw_rs ?_
  refine .v (f_build (xs := []) (z' := .d (eGAccount (⟨(0 : Int), (0 : Int)⟩ : GAccount))) (by rfl) zr95 ag95 rfl (by rfl) trivial (by rfl) (by rfl)) rfl .nil .nil ?_
  refine .s (f_store (n := 0) (o := 4) (off := 0) (p := []) (c := .d (eGAccount (⟨(0 : Int), (0 : Int)⟩ : GAccount))) (old := .d (eGAccount (⟨(0 : Int), (0 : Int)⟩ : GAccount))) (z := .d (eGAccount (⟨(0 : Int), (0 : Int)⟩ : GAccount))) (c' := .d (eGAccount (⟨(0 : Int), (0 : Int)⟩ : GAccount))) rfl rfl (by rfl) ty95 (by rfl)) rfl (.c rfl (.c rfl .nil)) (.cons rfl .nil) ?_
  refine .a rfl ?_
  refine .nil (aq_then ?_)
  refine aw_ret ?_
  refine aq_then_ret ?_
  obtain rfl := Option.some.inj h
  exact aq_finp hb0 rfl (.cell rfl rfl ty95 (by rfl) (.tmp rfl (by rfl) .nil)) (by rfl) rfl ⟨rfl, rfl⟩
 replace h := ite_f hc6 h
 refine aw_skip ?_
 refine aq_then ?_
 refine aw_rs ?_
 refine .m rfl ?_
 obtain ⟨y7, hy8, h⟩ := bind_some h
 refine .v (f_callP hgl (by rfl) en104 rfl (by rfl) (by rfl) (by rfl) (F104_acct_Read_ok hy8)) rfl (.c rfl .nil) .nil ?_
 refine .v (f_extract (by rfl) rfl) rfl (.c rfl .nil) .nil ?_
 refine .v (f_extract (by rfl) rfl) rfl (.c rfl .nil) .nil ?_
 refine .s (f_store (n := 0) (o := 4) (off := 0) (p := []) (c := .d (eGAccount (⟨(0 : Int), (0 : Int)⟩ : GAccount))) (old := .d (eGAccount (⟨(0 : Int), (0 : Int)⟩ : GAccount))) (z := .d (eGAccount y7.1)) (c' := .d (eGAccount y7.1)) rfl rfl (by rfl) ty95 (by rfl)) rfl (.c rfl (.c rfl .nil)) (.cons rfl .nil) ?_
 refine .a rfl ?_
 refine .nil (aq_then ?_)
 refine aw_ret ?_
 obtain rfl := Option.some.inj h
 exact aq_finp hb0 rfl (.cell rfl rfl ty95 (by rfl) (.tmp rfl (by rfl) .nil)) (by rfl) rfl ⟨rfl, rfl⟩

/- 47: beadroll/queue.Twin -/
def F47_queue_Twin (n : Nat) (a0 : GLine) : Option ((List Int) × List GTx) :=
  ((F76_Clone n a0.Txs).bind fun (y1 : List GTx) => some (a0.From, y1))
theorem F47_queue_Twin_ok {n : Nat} {a0 : GLine} {r : (List Int) × List GTx} (h : F47_queue_Twin n a0 = some r) :
    ACall Tryd.prog GS 47 [.d (eGLine a0)] [] (fun r' hp' => r' = .st [.d (eA22 r.1), .slc 1067 0 ((r.2).length) 99] ∧ hp' = [(2, .av (.st [.d (eA22 r.1), .slc 1067 0 ((r.2).length) 99])), (1067, .av (.d (.arr 99 ((r.2).length) ((r.2).map eGTx))))]) := by
 refine acall_of_body mixed Tryd.func47 rfl (by rfl) ?_
 intro C hro hgl hb0
 unfold F47_queue_Twin at h
 refine aw_rs ?_
 refine .n (f_box 1 (by rfl) (by rfl)) rfl (.c rfl .nil) rfl ?_
 refine .n (f_alloc 2 (by rfl) zrv26) rfl .nil rfl ?_
 refine .nil (aq_then ?_)
 refine aw_rds ?_
 refine .v (f_fieldAddr (n := 0) (by rfl) fl26_0 (by decide)) rfl (.c rfl .nil) .nil ?_
 refine .v (f_load (n := 0) (o := 1) (off := (0 + 0)) (p := [0]) (c := .d (eGLine a0)) (z := .d (eA22 a0.From)) (by rfl) rfl ty23 (by rfl)) rfl (.c rfl .nil) (.cons rfl .nil) ?_
 refine .v (f_fieldAddr (n := 32) (by rfl) fl26_1 (by decide)) rfl (.c rfl .nil) .nil ?_
 refine .v (f_load (n := 0) (o := 1) (off := (0 + 32)) (p := [1]) (c := .d (eGLine a0)) (z := .d (eL24 a0.Txs)) (by rfl) rfl ty24 (by rfl)) rfl (.c rfl .nil) (.cons rfl .nil) ?_
 obtain ⟨y1, hy2, h⟩ := bind_some h
 refine .w (f_callG (xs := [.d (eL24 a0.Txs)]) (r := .slc 1067 0 ((y1).length) 99) (hw := [(1067, .av (.d (.arr 99 ((y1).length) ((y1).map eGTx))))]) (fun i => bif Nat.beq i 0 then 1067 else i) [] hgl (by rfl) (cal_f en76) rfl (by rfl) (by rfl) (by rfl) (by rfl) (.cons (.same _) .nil) rfl rfl rfl rfl (F76_Clone_ok hy2)) rfl (.c rfl .nil) .nil (.cons rfl .nil) ?_
 refine .v (f_build (xs := [(0, .d (eA22 a0.From)), (1, .slc 1067 0 ((y1).length) 99)]) (z' := .st [.d (eA22 a0.From), .slc 1067 0 ((y1).length) 99]) (by rfl) zrv26 ag26 rfl (by rfl) ⟨_, _, _, rfl, pl26_0, rfl, rfl, ⟨_, _, _, rfl, pl26_1, rfl, rfl, trivial⟩⟩ (by rfl) (by rfl)) rfl (.c rfl (.c rfl .nil)) .nil ?_
 refine .s (f_store (n := 0) (o := 2) (off := 0) (p := []) (c := .st [.d (eA22 (List.replicate 32 (0 : Int))), .d (.val (.slice none 0 0))]) (old := .st [.d (eA22 (List.replicate 32 (0 : Int))), .d (.val (.slice none 0 0))]) (z := .st [.d (eA22 a0.From), .slc 1067 0 ((y1).length) 99]) (c' := .st [.d (eA22 a0.From), .slc 1067 0 ((y1).length) 99]) rfl rfl (by rfl) ty26 (by rfl)) rfl (.c rfl (.c rfl .nil)) (.cons rfl .nil) ?_
 refine .nil (by kernel_rfl) ?_
 refine aw_ret ?_
 obtain rfl := Option.some.inj h
 refine aq_weak (s' := ⟨[(2, .ptr 2 0 [])], [(2, .av (.st [.d (eA22 a0.From), .slc 1067 0 ((y1).length) 99])), (1067, .av (.d (.arr 99 ((y1).length) ((y1).map eGTx))))], []⟩) id hb0 (.keep rfl .nil) (.keep rfl (.keep rfl .nil)) rfl (by rfl) ?_
 exact aq_fin1 (.cell rfl rfl ty26 (by rfl) .nil) rfl ⟨rfl, rfl⟩

/- 61: beadroll/shard.Twin -/
def F61_shard_Twin_s0 (n : Nat) (y1 : List GLine) (z0_0 : Int) (z0_1 : List GLine) : Option ((Int × List GLine) ⊕ (List GLine)) :=
  (if (decide (z0_0 < ((y1).length : Int))) = true then ((rd z0_1 z0_0).bind fun (x4 : GLine) => ((F47_queue_Twin n x4).bind fun (y7 : (List Int) × List GTx) => ((rd z0_1 z0_0).bind fun (x9 : GLine) => some (.inl ((IntKind.i64.wrap (z0_0 + (1 : Int))), (z0_1.set (0 + (z0_0).toNat) (⟨y7.1, y7.2⟩ : GLine))))))) else some (.inr z0_1))
def F61_shard_Twin (n : Nat) (a0 : GShard) : Option (List GLine) :=
  ((F100_Clone n a0.Lines).bind fun (y1 : List GLine) => ((loopF (fun (z : Int × List GLine) => F61_shard_Twin_s0 n y1 z.1 z.2) n ((0 : Int), y1)).bind fun (o12 : List GLine) => some o12))
theorem F61_shard_Twin_ok {n : Nat} {a0 : GShard} {r : List GLine} (h : F61_shard_Twin n a0 = some r) :
    ACall Tryd.prog GS 61 [.d (eGShard a0)] [] (fun r' hp' => r' = .st [.slc 1066 0 ((r).length) 33] ∧ hp' = [(2, .av (.st [.slc 1066 0 ((r).length) 33])), (1066, .av (.d (.arr 33 ((r).length) ((r).map eGLine))))]) := by
 refine acall_of_body mixed Tryd.func61 rfl (by rfl) ?_
 intro C hro hgl hb0
 unfold F61_shard_Twin at h
 refine aw_rs ?_
 refine .n (f_box 1 (by rfl) (by rfl)) rfl (.c rfl .nil) rfl ?_
 refine .n (f_alloc 2 (by rfl) zrv74) rfl .nil rfl ?_
 refine .z ?_
 refine .v (f_fieldAddr (n := 0) (by rfl) fl74_0 (by decide)) rfl (.c rfl .nil) .nil ?_
 refine .l 1 (0 + 0) [0] (.d (eGShard a0)) (.d (eL72 a0.Lines)) ty72 ?_
 obtain ⟨y1, hy2, h⟩ := bind_some h
 refine .w (f_callG (xs := [.d (eL72 a0.Lines)]) (r := .slc 1066 0 ((y1).length) 33) (hw := [(1066, .av (.d (.arr 33 ((y1).length) ((y1).map eGLine))))]) (fun i => bif Nat.beq i 0 then 1066 else i) [] hgl (by rfl) (cal_f en100) rfl (by rfl) (by rfl) (by rfl) (by rfl) (.cons (.same _) .nil) rfl rfl rfl rfl (F100_Clone_ok hy2)) rfl (.c rfl .nil) .nil (.cons rfl .nil) ?_
 refine .v (f_build (xs := [(0, .slc 1066 0 ((y1).length) 33)]) (z' := .st [.slc 1066 0 ((y1).length) 33]) (by rfl) zrv74 ag74 rfl (by rfl) ⟨_, _, _, rfl, pl74_0, rfl, rfl, trivial⟩ (by rfl) (by rfl)) rfl (.c rfl .nil) .nil ?_
 refine .n (f_alloc 3 (by rfl) zrv74) rfl .nil rfl ?_
 refine .s (f_store (n := 0) (o := 3) (off := 0) (p := []) (c := .st [.d (.val (.slice none 0 0))]) (old := .st [.d (.val (.slice none 0 0))]) (z := .st [.slc 1066 0 ((y1).length) 33]) (c' := .st [.slc 1066 0 ((y1).length) 33]) rfl rfl (by rfl) ty74 (by rfl)) rfl (.c rfl (.c rfl .nil)) (.cons rfl .nil) ?_
 refine .nil (aq_then ?_)
 refine aw_seq ?_
 refine aw_rs ?_
 refine .v (f_fieldAddr (n := 0) (by rfl) fl74_0 (by decide)) rfl (.c rfl .nil) .nil ?_
 refine .l 3 (0 + 0) [0] (.st [.slc 1066 0 ((y1).length) 33]) (.slc 1066 0 ((y1).length) 33) ty72 ?_
 refine .v (f_lenO (by rfl) sl72 rfl) rfl (.c rfl .nil) .nil ?_
 refine .m rfl ?_
 refine .nil (aq_then ?_)
 refine aw_block ?_
 refine aw_weak (s' := ⟨[(2, .ptr 2 0 []), (3, .ptr 3 0 []), (11, .d (.val (.int .i64 ((y1).length : Int)))), (12, .d (.val (.int .i64 (0 : Int))))], [(2, .av (.st [.d (.val (.slice none 0 0))])), (3, .av (.st [.slc 1066 0 ((y1).length) 33])), (1066, .av (.d (.arr 33 ((y1).length) ((y1).map eGLine))))], []⟩) id hb0 (.keep rfl (.keep rfl (.keep rfl (.keep rfl .nil)))) (.keep rfl (.keep rfl (.keep rfl .nil))) rfl (by rfl) ?_
 obtain ⟨o12, ho13, h⟩ := bind_some h
 refine aw_loopX (σ := Int × List GLine) (fun z => ⟨[(2, .ptr 2 0 []), (3, .ptr 3 0 []), (11, .d (.val (.int .i64 ((y1).length : Int)))), (12, .d (.val (.int .i64 z.1)))], [(2, .av (.st [.d (.val (.slice none 0 0))])), (3, .av (.st [.slc 1066 0 ((z.2).length) 33])), (1066, .av (.d (.arr 33 ((z.2).length) ((z.2).map eGLine))))], []⟩) (fun _ => (.exit 0)) (fun (o12 : List GLine) => ⟨[(2, .ptr 2 0 []), (3, .ptr 3 0 [])], [(2, .av (.st [.d (.val (.slice none 0 0))])), (3, .av (.st [.slc 1066 0 ((o12).length) 33])), (1066, .av (.d (.arr 33 ((o12).length) ((o12).map eGLine))))], []⟩) ho13 (fun _ => rfl) ?_ ?_
 ·clear h ho13
  rintro ⟨z0_0, z0_1⟩ o h
  change F61_shard_Twin_s0 n y1 z0_0 z0_1 = some o at h
  unfold F61_shard_Twin_s0 at h
  show AW _ _ _ ⟨[(2, .ptr 2 0 []), (3, .ptr 3 0 []), (11, .d (.val (.int .i64 ((y1).length : Int)))), (12, .d (.val (.int .i64 z0_0)))], [(2, .av (.st [.d (.val (.slice none 0 0))])), (3, .av (.st [.slc 1066 0 ((z0_1).length) 33])), (1066, .av (.d (.arr 33 ((z0_1).length) ((z0_1).map eGLine))))], []⟩
  refine aw_rs ?_
  refine .b rfl rfl rfl ?_
  refine .nil (aq_then ?_)
  refine aw_seq ?_
  refine aw_cond rfl (fun hc3 => ?_) (fun hc3 => ?_)
  ·replace h := ite_t hc3 h
   refine aw_skip ?_
   refine aq_then ?_
   refine aw_seq ?_
   refine aw_block ?_
   refine aw_rs ?_
   refine .m rfl ?_
   refine .a rfl ?_
   refine .nil (aq_then ?_)
   refine aw_rd ?_
   refine .v (f_fieldAddr (n := 0) (by rfl) fl74_0 (by decide)) rfl (.c rfl .nil) .nil ?_
   refine .v (f_load (n := 0) (o := 3) (off := (0 + 0)) (p := [0]) (c := .st [.slc 1066 0 ((z0_1).length) 33]) (z := .slc 1066 0 ((z0_1).length) 33) (by rfl) rfl ty72 (by rfl)) rfl (.c rfl .nil) (.cons rfl .nil) ?_
   refine .v (f_move (by rfl)) rfl (.c rfl .nil) .nil ?_
   refine .v (f_fieldAddr (n := 0) (by rfl) fl74_0 (by decide)) rfl (.c rfl .nil) .nil ?_
   refine .v (f_load (n := 0) (o := 3) (off := (0 + 0)) (p := [0]) (c := .st [.slc 1066 0 ((z0_1).length) 33]) (z := .slc 1066 0 ((z0_1).length) 33) (by rfl) rfl ty72 (by rfl)) rfl (.c rfl .nil) (.cons rfl .nil) ?_
   refine .v (f_move (by rfl)) rfl (.c rfl .nil) .nil ?_
   obtain ⟨x4, hx5, h⟩ := bind_some h
   obtain ⟨hx6, hx5⟩ := rd_some hx5
   refine .v (f_indexSW (by rfl) sl72 hx6 (rd_map _ hx5)) rfl (.c rfl (.c rfl .nil)) (.cons rfl .nil) ?_
   refine .v (f_load (n := 0) (o := 1066) (off := ((0 + (z0_0).toNat) * 33)) (p := [0 + (z0_0).toNat]) (c := .d (.arr 33 ((z0_1).length) ((z0_1).map eGLine))) (z := .d (eGLine x4)) (by rfl) (at_map _ (by simpa using hx5) rfl) ty26 (by rfl)) rfl (.c rfl .nil) (.cons rfl .nil) ?_
   obtain ⟨y7, hy8, h⟩ := bind_some h
   refine .v (f_callP hgl (by rfl) en47 rfl (by rfl) (by rfl) (by rfl) (acall_frz (y := (eGLine (⟨y7.1, y7.2⟩ : GLine))) [(1067, (.arr 99 ((y7.2).length) ((y7.2).map eGTx)))] (.cons rfl .nil) (.st (.cons (.same _) (.cons (.whole (.head _)) .nil))) (F47_queue_Twin_ok hy8))) rfl (.c rfl .nil) .nil ?_
   obtain ⟨x9, hx10, h⟩ := bind_some h
   obtain ⟨hx11, hx10⟩ := rd_some hx10
   refine .v (f_indexSW (by rfl) sl72 hx11 (rd_map _ hx10)) rfl (.c rfl (.c rfl .nil)) (.cons rfl .nil) ?_
   refine .s (f_store (n := 0) (o := 1066) (off := ((0 + (z0_0).toNat) * 33)) (p := [0 + (z0_0).toNat]) (c := .d (.arr 33 ((z0_1).length) ((z0_1).map eGLine))) (old := .d (eGLine x9)) (z := .d (eGLine (⟨y7.1, y7.2⟩ : GLine))) (c' := .d (.arr 33 ((z0_1).length) (((z0_1.set (0 + (z0_0).toNat) (⟨y7.1, y7.2⟩ : GLine))).map eGLine))) (at_map _ (by simpa using hx10) rfl) (put_map _ (by simpa using hx10)) (by rfl) ty26 (by rfl)) rfl (.c rfl (.c rfl .nil)) (.cons rfl .nil) ?_
   refine .nil (by kernel_rfl) ?_
   refine aq_block ?_
   refine aq_then ?_
   refine aw_r ?_
   refine .b rfl rfl rfl ?_
   refine .m rfl ?_
   refine .nil ?_
   obtain rfl := Option.some.inj h
   refine aq_weak (s' := ⟨[(2, .ptr 2 0 []), (3, .ptr 3 0 []), (11, .d (.val (.int .i64 ((y1).length : Int)))), (12, .d (.val (.int .i64 (IntKind.i64.wrap (z0_0 + (1 : Int))))))], [(2, .av (.st [.d (.val (.slice none 0 0))])), (3, .av (.st [.slc 1066 0 (((z0_1.set (0 + (z0_0).toNat) (⟨y7.1, y7.2⟩ : GLine))).length) 33])), (1066, .av (.d (.arr 33 (((z0_1.set (0 + (z0_0).toNat) (⟨y7.1, y7.2⟩ : GLine))).length) (((z0_1.set (0 + (z0_0).toNat) (⟨y7.1, y7.2⟩ : GLine))).map eGLine))))], []⟩) id hb0 (.keep rfl (.keep rfl (.keep rfl (.keep rfl .nil)))) (.keep rfl (.keep (by simp only [List.length_set]; rfl) (.keep (by simp only [List.length_set]; rfl) .nil))) rfl (by rfl) ?_
   exact jq
  replace h := ite_f hc3 h
  refine aw_exit ?_
  refine aq_then_exit ?_
  obtain rfl := Option.some.inj h
  refine aq_weak (s' := ⟨[(2, .ptr 2 0 []), (3, .ptr 3 0 [])], [(2, .av (.st [.d (.val (.slice none 0 0))])), (3, .av (.st [.slc 1066 0 ((z0_1).length) 33])), (1066, .av (.d (.arr 33 ((z0_1).length) ((z0_1).map eGLine))))], []⟩) id hb0 (.keep rfl (.keep rfl .nil)) (.keep rfl (.keep rfl (.keep rfl .nil))) rfl (by rfl) ?_
  exact jq
 refine aq_block_exit ?_
 refine aq_then ?_
 refine aw_rs ?_
 refine .l 3 0 [] (.st [.slc 1066 0 ((o12).length) 33]) (.st [.slc 1066 0 ((o12).length) 33]) ty74 ?_
 refine .s (f_store (n := 0) (o := 2) (off := 0) (p := []) (c := .st [.d (.val (.slice none 0 0))]) (old := .st [.d (.val (.slice none 0 0))]) (z := .st [.slc 1066 0 ((o12).length) 33]) (c' := .st [.slc 1066 0 ((o12).length) 33]) rfl rfl (by rfl) ty74 (by rfl)) rfl (.c rfl (.c rfl .nil)) (.cons rfl .nil) ?_
 refine .nil (aq_then ?_)
 refine aw_ret ?_
 obtain rfl := Option.some.inj h
 refine aq_weak (s' := ⟨[(2, .ptr 2 0 [])], [(2, .av (.st [.slc 1066 0 ((o12).length) 33])), (1066, .av (.d (.arr 33 ((o12).length) ((o12).map eGLine))))], []⟩) id hb0 (.keep rfl .nil) (.keep rfl (.keep rfl .nil)) rfl (by rfl) ?_
 exact aq_fin1 (.cell rfl rfl ty74 (by rfl) .nil) rfl ⟨rfl, rfl⟩

/- 147: (*beadroll/shard.part).find$1 -/
def F147_shard_part_find_1_acc (n : Nat) (a0 : GLine) (a1 : (List Int)) : Option (Bool) :=
  ((F96_path_Ahead n a0.From a1).bind fun (y1 : Bool) => some (!y1))
theorem F147_shard_part_find_1_acc_ok {n : Nat} {a0 : GLine} {a1 : (List Int)} {r : Bool} (h : F147_shard_part_find_1_acc n a0 a1 = some r) :
    ACall Tryd.prog GS 147 [.d (eGLine a0), .ptr 0 0 []] [(0, .av (.d (eA22 a1)))] (fun r' hp' => r' = .d (.val (.bool r)) ∧ hp' = [(0, .av (.d (eA22 a1)))]) := by
 refine acall_of_body mixed Tryd.func147 rfl (by rfl) ?_
 intro C hro hgl hb0
 unfold F147_shard_part_find_1_acc at h
 refine aw_rs ?_
 refine .n (f_box 2 (by rfl) (by rfl)) rfl (.c rfl .nil) rfl ?_
 refine .a rfl ?_
 refine .z ?_
 refine .v (f_fieldAddr (n := 0) (by rfl) fl26_0 (by decide)) rfl (.c rfl .nil) .nil ?_
 refine .l 2 (0 + 0) [0] (.d (eGLine a0)) (.d (eA22 a0.From)) ty23 ?_
 refine .l 0 0 [] (.d (eA22 a1)) (.d (eA22 a1)) ty23 ?_
 obtain ⟨y1, hy2, h⟩ := bind_some h
 refine .v (f_callP hgl (by rfl) en96 rfl (by rfl) (by rfl) (by rfl) (F96_path_Ahead_ok hy2)) rfl (.c rfl (.c rfl .nil)) .nil ?_
 refine .v (f_not (by rfl)) rfl (.c rfl .nil) .nil ?_
 refine .a rfl ?_
 refine .nil (aq_then ?_)
 refine aw_ret ?_
 obtain rfl := Option.some.inj h
 refine aq_weak (s' := ⟨[(3, .d (.val (.bool (!y1))))], [(0, .av (.d (eA22 a1)))], []⟩) id hb0 (.keep rfl .nil) (.keep rfl .nil) rfl (by rfl) ?_
 exact aq_fin1 (.tmp rfl (by rfl) .nil) rfl ⟨rfl, rfl⟩

/- 112: slices.IndexFunc[[]beadroll/api.Line,beadroll/api.Line] -/
def F112_api_Line_65c_s0 (n : Nat) (a0 : (List GLine)) (a1 : (List Int)) (z0_0 : Int) : Option ((Int) ⊕ ((Unit) ⊕ (Int))) :=
  (if (decide (z0_0 < ((a0).length : Int))) = true then ((rd a0 z0_0).bind fun (x2 : GLine) => ((F147_shard_part_find_1_acc n x2 a1).bind fun (y5 : Bool) => (if y5 = true then some (.inr (.inr z0_0)) else some (.inl (IntKind.i64.wrap (z0_0 + (1 : Int))))))) else some (.inr (.inl ())))
def F112_api_Line_65c (n : Nat) (a0 : (List GLine)) (a1 : (List Int)) : Option (Int) :=
  ((loopF (fun (z : Int) => F112_api_Line_65c_s0 n a0 a1 z) n (0 : Int)).bind (Sum.elim (fun (j8 : Unit) => some (-1 : Int)) (fun (j8 : Int) => some j8)))
theorem F112_api_Line_65c_ok {n : Nat} {a0 : (List GLine)} {a1 : (List Int)} {r : Int} (h : F112_api_Line_65c n a0 a1 = some r) :
    ACall Tryd.prog GS 112 [.d (eL72 a0), .fn (.func 147) [] [.ptr 0 0 []]] [(0, .av (.d (eA22 a1)))] (fun r' hp' => r' = .d (.val (.int .i64 r)) ∧ hp' = [(0, .av (.d (eA22 a1)))]) := by
 refine acall_of_body mixed Tryd.func112 rfl (by rfl) ?_
 intro C hro hgl hb0
 unfold F112_api_Line_65c at h
 refine aw_rs ?_
 refine .a rfl ?_
 refine .nil (aq_then ?_)
 refine aw_seq ?_
 refine aw_rs ?_
 refine .m rfl ?_
 refine .v (f_lenD (n := (a0).length) (by rfl) sl72 rfl (by simp)) rfl (.c rfl .nil) .nil ?_
 refine .m rfl ?_
 refine .nil (aq_then ?_)
 refine aw_block ?_
 refine aw_weak (s' := ⟨[(0, .d (eL72 a0)), (1, .fn (.func 147) [] [.ptr 0 0 []]), (7, .d (.val (.int .i64 ((a0).length : Int)))), (8, .d (.val (.int .i64 (0 : Int))))], [(0, .av (.d (eA22 a1)))], []⟩) id hb0 (.keep rfl (.keep rfl (.keep rfl (.keep rfl .nil)))) (.keep rfl .nil) rfl (by rfl) ?_
 obtain ⟨o8, ho9, h⟩ := bind_some h
 refine aw_loopX (σ := Int) (fun z => ⟨[(0, .d (eL72 a0)), (1, .fn (.func 147) [] [.ptr 0 0 []]), (7, .d (.val (.int .i64 ((a0).length : Int)))), (8, .d (.val (.int .i64 z)))], [(0, .av (.d (eA22 a1)))], []⟩) (Sum.elim (fun _ => .exit 0) (fun _ => .ret)) (Sum.elim (fun j8 => ⟨[], [(0, .av (.d (eA22 a1)))], []⟩) (fun j8 => ⟨[(4, .d (.val (.int .i64 j8)))], [(0, .av (.d (eA22 a1)))], []⟩)) ho9 (by intro b; rcases b with _ | _ <;> rfl) ?_ ?_
 ·clear h ho9
  intro z0_0 o h
  change F112_api_Line_65c_s0 n a0 a1 z0_0 = some o at h
  unfold F112_api_Line_65c_s0 at h
  show AW _ _ _ ⟨[(0, .d (eL72 a0)), (1, .fn (.func 147) [] [.ptr 0 0 []]), (7, .d (.val (.int .i64 ((a0).length : Int)))), (8, .d (.val (.int .i64 z0_0)))], [(0, .av (.d (eA22 a1)))], []⟩
  refine aw_rs ?_
  refine .b rfl rfl rfl ?_
  refine .nil (aq_then ?_)
  refine aw_seq ?_
  refine aw_cond rfl (fun hc1 => ?_) (fun hc1 => ?_)
  ·replace h := ite_t hc1 h
   refine aw_skip ?_
   refine aq_then ?_
   refine aw_seq ?_
   refine aw_block ?_
   refine aw_rs ?_
   refine .m rfl ?_
   refine .a rfl ?_
   refine .z ?_
   refine .m rfl ?_
   refine .m rfl ?_
   refine .m rfl ?_
   obtain ⟨x2, hx3, h⟩ := bind_some h
   obtain ⟨hx4, hx3⟩ := rd_some hx3
   refine .v (f_indexS (by rfl) sl72 hx4 (rd_map _ hx3)) rfl (.c rfl (.c rfl .nil)) .nil ?_
   refine .v (f_loadR (z := (eGLine x2)) (by rfl) ty26) rfl (.c rfl .nil) .nil ?_
   obtain ⟨y5, hy6, h⟩ := bind_some h
   refine .w (f_callG0 (xs := [.d (eGLine x2)]) (r := .d (.val (.bool y5))) (fun i => i) [] hgl (by rfl) (cal_v (first := []) (caps := [.ptr 0 0 []]) en147) rfl (by rfl) (by rfl) (by rfl) (by rfl) (.cons (.same _) (.cons (.same _) .nil)) rfl rfl (F147_shard_part_find_1_acc_ok hy6)) rfl (.c rfl (.c rfl .nil)) (.cons rfl .nil) .nil ?_
   refine .nil (aq_then ?_)
   refine aw_cond rfl (fun hc7 => ?_) (fun hc7 => ?_)
   ·replace h := ite_t hc7 h
    refine aw_rs ?_
    refine .m rfl ?_
    refine .a rfl ?_
    refine .nil (aq_then ?_)
    refine aw_ret ?_
    refine aq_block_ret ?_
    refine aq_then_ret ?_
    obtain rfl := Option.some.inj h
    refine aq_weak (s' := ⟨[(4, .d (.val (.int .i64 z0_0)))], [(0, .av (.d (eA22 a1)))], []⟩) id hb0 (.keep rfl .nil) (.keep rfl .nil) rfl (by rfl) ?_
    exact jq
   replace h := ite_f hc7 h
   refine aw_skip ?_
   refine aq_block ?_
   refine aq_then ?_
   refine aw_r ?_
   refine .b rfl rfl rfl ?_
   refine .m rfl ?_
   refine .nil ?_
   obtain rfl := Option.some.inj h
   refine aq_weak (s' := ⟨[(0, .d (eL72 a0)), (1, .fn (.func 147) [] [.ptr 0 0 []]), (7, .d (.val (.int .i64 ((a0).length : Int)))), (8, .d (.val (.int .i64 (IntKind.i64.wrap (z0_0 + (1 : Int))))))], [(0, .av (.d (eA22 a1)))], []⟩) id hb0 (.keep rfl (.keep rfl (.keep rfl (.keep rfl .nil)))) (.keep rfl .nil) rfl (by rfl) ?_
   exact jq
  replace h := ite_f hc1 h
  refine aw_exit ?_
  refine aq_then_exit ?_
  obtain rfl := Option.some.inj h
  refine aq_weak (s' := ⟨[], [(0, .av (.d (eA22 a1)))], []⟩) id hb0 .nil (.keep rfl .nil) rfl (by rfl) ?_
  exact jq
 rcases o8 with j8 | j8
 ·replace h := elim_l h
  refine aq_block_exit ?_
  refine aq_then ?_
  refine aw_rs ?_
  refine .a rfl ?_
  refine .nil (aq_then ?_)
  refine aw_ret ?_
  obtain rfl := Option.some.inj h
  refine aq_weak (s' := ⟨[(4, .d (.val (.int .i64 (-1 : Int))))], [(0, .av (.d (eA22 a1)))], []⟩) id hb0 (.keep rfl .nil) (.keep rfl .nil) rfl (by rfl) ?_
  exact aq_fin1 (.tmp rfl (by rfl) .nil) rfl ⟨rfl, rfl⟩
 replace h := elim_r h
 refine aq_block_ret ?_
 refine aq_then_ret ?_
 obtain rfl := Option.some.inj h
 refine aq_weak (s' := ⟨[(4, .d (.val (.int .i64 j8)))], [(0, .av (.d (eA22 a1)))], []⟩) id hb0 (.keep rfl .nil) (.keep rfl .nil) rfl (by rfl) ?_
 exact aq_fin1 (.tmp rfl (by rfl) .nil) rfl ⟨rfl, rfl⟩

/- 119: (*beadroll/shard.part).find -/
def F119_shard_part_find_363 (n : Nat) (a0 : (List Int)) (a1 : (List GLine)) : Option (Int × Bool) :=
  ((F112_api_Line_65c n a1 a0).bind fun (y1 : Int) => (if (decide (y1 < (0 : Int))) = true then some (((a1).length : Int), false) else ((rd a1 y1).bind fun (x4 : GLine) => some (y1, (decide (x4.From = a0))))))
theorem F119_shard_part_find_363_ok {n : Nat} {a0 : (List Int)} {a1 : (List GLine)} {r : Int × Bool} (h : F119_shard_part_find_363 n a0 a1 = some r) :
    ACall Tryd.prog GS 119 [.ptr 0 0 [], .d (eA22 a0)] [(0, .av (.st [.st [.slc 1 0 ((a1).length) 33]])), (1, .av (.d (.arr 33 ((a1).length) ((a1).map eGLine))))] (fun r' hp' => r' = .res [.d (.val (.int .i64 r.1)), .d (.val (.bool r.2))] ∧ hp' = [(0, .av (.st [.st [.slc 1 0 ((a1).length) 33]])), (1, .av (.d (.arr 33 ((a1).length) ((a1).map eGLine))))]) := by
 refine acall_of_body mixed Tryd.func119 rfl (by rfl) ?_
 intro C hro hgl hb0
 unfold F119_shard_part_find_363 at h
 refine aw_rs ?_
 refine .n (f_box 3 (by rfl) (by rfl)) rfl (.c rfl .nil) rfl ?_
 refine .a rfl ?_
 refine .a rfl ?_
 refine .z ?_
 refine .m rfl ?_
 refine .v (f_nilCheck (by rfl)) rfl (.c rfl .nil) .nil ?_
 refine .v (f_fieldAddr (n := 0) (by rfl) fl132_0 (by decide)) rfl (.c rfl .nil) .nil ?_
 refine .v (f_fieldAddr (n := 0) (by rfl) fl74_0 (by decide)) rfl (.c rfl .nil) .nil ?_
 refine .l 0 ((0 + 0) + 0) [0, 0] (.st [.st [.slc 1 0 ((a1).length) 33]]) (.slc 1 0 ((a1).length) 33) ty72 ?_
 refine .v (f_makeFunc (xs := []) (ys := [.ptr 3 0 []]) (by rfl) rfl rfl (by rfl) (by rfl)) rfl (.c rfl .nil) .nil ?_
 obtain ⟨y1, hy2, h⟩ := bind_some h
 refine .w (f_callH0 (xs := [.slc 1 0 ((a1).length) 33, .fn (.func 147) [] [.ptr 3 0 []]]) (r := .d (.val (.int .i64 y1))) (hr := [(3, .av (.d (eA22 a0)))]) (fun i => bif Nat.beq i 0 then 3 else i) [(1, (.arr 33 ((a1).length) ((a1).map eGLine)))] hgl (by rfl) (cal_f en112) rfl (by rfl) (by rfl) (by rfl) (by rfl) (by rfl) (.cons (.whole (.head _)) (.cons (.same _) .nil)) rfl rfl (flat_val) ⟨(fl_eA22 _), trivial⟩ (F112_api_Line_65c_ok hy2)) rfl (.c rfl (.c rfl .nil)) (.cons rfl (.cons rfl .nil)) .nil ?_
 refine .a rfl ?_
 refine .nil (aq_then ?_)
 refine aw_seq ?_
 refine aw_rs ?_
 refine .m rfl ?_
 refine .b rfl rfl rfl ?_
 refine .nil (aq_then ?_)
 refine aw_cond rfl (fun hc3 => ?_) (fun hc3 => ?_)
 ·replace h := ite_t hc3 h
  refine aw_rs ?_
  refine .m rfl ?_
  refine .v (f_nilCheck (by rfl)) rfl (.c rfl .nil) .nil ?_
  refine .v (f_fieldAddr (n := 0) (by rfl) fl132_0 (by decide)) rfl (.c rfl .nil) .nil ?_
  refine .v (f_fieldAddr (n := 0) (by rfl) fl74_0 (by decide)) rfl (.c rfl .nil) .nil ?_
  refine .l 0 ((0 + 0) + 0) [0, 0] (.st [.st [.slc 1 0 ((a1).length) 33]]) (.slc 1 0 ((a1).length) 33) ty72 ?_
  refine .v (f_lenO (by rfl) sl72 rfl) rfl (.c rfl .nil) .nil ?_
  refine .a rfl ?_
  refine .a rfl ?_
  refine .nil (aq_then ?_)
  refine aw_ret ?_
  refine aq_then_ret ?_
  obtain rfl := Option.some.inj h
  refine aq_weak (s' := ⟨[(4, .d (.val (.int .i64 ((a1).length : Int)))), (5, .d (.val (.bool false)))], [(0, .av (.st [.st [.slc 1 0 ((a1).length) 33]])), (1, .av (.d (.arr 33 ((a1).length) ((a1).map eGLine))))], []⟩) id hb0 (.keep rfl (.keep rfl .nil)) (.keep rfl (.keep rfl .nil)) rfl (by rfl) ?_
  exact aq_fin1 (.tmp rfl (by rfl) (.tmp rfl (by rfl) .nil)) rfl ⟨rfl, rfl⟩
 replace h := ite_f hc3 h
 refine aw_skip ?_
 refine aq_then ?_
 refine aw_rds ?_
 refine .v (f_move (by rfl)) rfl (.c rfl .nil) .nil ?_
 refine .v (f_move (by rfl)) rfl (.c rfl .nil) .nil ?_
 refine .v (f_nilCheck (by rfl)) rfl (.c rfl .nil) .nil ?_
 refine .v (f_fieldAddr (n := 0) (by rfl) fl132_0 (by decide)) rfl (.c rfl .nil) .nil ?_
 refine .v (f_fieldAddr (n := 0) (by rfl) fl74_0 (by decide)) rfl (.c rfl .nil) .nil ?_
 refine .v (f_load (n := 0) (o := 0) (off := ((0 + 0) + 0)) (p := [0, 0]) (c := .st [.st [.slc 1 0 ((a1).length) 33]]) (z := .slc 1 0 ((a1).length) 33) (by rfl) rfl ty72 (by rfl)) rfl (.c rfl .nil) (.cons rfl .nil) ?_
 refine .v (f_move (by rfl)) rfl (.c rfl .nil) .nil ?_
 obtain ⟨x4, hx5, h⟩ := bind_some h
 obtain ⟨hx6, hx5⟩ := rd_some hx5
 refine .v (f_indexSW (by rfl) sl72 hx6 (rd_map _ hx5)) rfl (.c rfl (.c rfl .nil)) (.cons rfl .nil) ?_
 refine .v (f_fieldAddr (n := 0) (by rfl) fl26_0 (by decide)) rfl (.c rfl .nil) .nil ?_
 refine .v (f_load (n := 0) (o := 1) (off := (((0 + (y1).toNat) * 33) + 0)) (p := [0 + (y1).toNat, 0]) (c := .d (.arr 33 ((a1).length) ((a1).map eGLine))) (z := .d (eA22 x4.From)) (by rfl) (at_map2 eGLine (by simpa using hx5) rfl rfl) ty23 (by rfl)) rfl (.c rfl .nil) (.cons rfl .nil) ?_
 refine .v (f_load (n := 0) (o := 3) (off := 0) (p := []) (c := .d (eA22 a0)) (z := .d (eA22 a0)) (by rfl) rfl ty23 (by rfl)) rfl (.c rfl .nil) (.cons rfl .nil) ?_
 refine .v (f_eqlT (by rfl) (fit23 _) (fit23 _) (by rfl) (by rfl) gd23 (eq_eA22 _ _)) rfl (.c rfl (.c rfl .nil)) .nil ?_
 refine .v (f_assign (by rfl)) rfl (.c rfl .nil) .nil ?_
 refine .v (f_assign (by rfl)) rfl (.c rfl .nil) .nil ?_
 refine .nil (by kernel_rfl) ?_
 refine aw_ret ?_
 obtain rfl := Option.some.inj h
 refine aq_weak (s' := ⟨[(4, .d (.val (.int .i64 y1))), (5, .d (.val (.bool (decide (x4.From = a0)))))], [(0, .av (.st [.st [.slc 1 0 ((a1).length) 33]])), (1, .av (.d (.arr 33 ((a1).length) ((a1).map eGLine))))], []⟩) id hb0 (.keep rfl (.keep rfl .nil)) (.keep rfl (.keep rfl .nil)) rfl (by rfl) ?_
 exact aq_fin1 (.tmp rfl (by rfl) (.tmp rfl (by rfl) .nil)) rfl ⟨rfl, rfl⟩

/- 93: (*beadroll/shard.part).line -/
def F93_shard_part_line_ec6 (n : Nat) (a0 : (List Int)) (a1 : (List GLine)) : Option (GLine) :=
  ((F119_shard_part_find_363 n a0 a1).bind fun (y1 : Int × Bool) => (if (!y1.2) = true then some (⟨a0, []⟩ : GLine) else ((rd a1 y1.1).bind fun (x4 : GLine) => some x4)))
theorem F93_shard_part_line_ec6_ok {n : Nat} {a0 : (List Int)} {a1 : (List GLine)} {r : GLine} (h : F93_shard_part_line_ec6 n a0 a1 = some r) :
    ACall Tryd.prog GS 93 [.ptr 0 0 [], .d (eA22 a0)] [(0, .av (.st [.st [.slc 1 0 ((a1).length) 33]])), (1, .av (.d (.arr 33 ((a1).length) ((a1).map eGLine))))] (fun r' hp' => r' = .d (eGLine r) ∧ hp' = [(4, .av (.d (eGLine r))), (0, .av (.st [.st [.slc 1 0 ((a1).length) 33]])), (1, .av (.d (.arr 33 ((a1).length) ((a1).map eGLine))))]) := by
 refine acall_of_body mixed Tryd.func93 rfl (by rfl) ?_
 intro C hro hgl hb0
 unfold F93_shard_part_line_ec6 at h
 refine aw_rs ?_
 refine .n (f_box 3 (by rfl) (by rfl)) rfl (.c rfl .nil) rfl ?_
 refine .n (f_alloc 4 (by rfl) zrv26) rfl .nil rfl ?_
 refine .z ?_
 refine .m rfl ?_
 refine .l 3 0 [] (.d (eA22 a0)) (.d (eA22 a0)) ty23 ?_
 obtain ⟨y1, hy2, h⟩ := bind_some h
 refine .w (f_callG0 (xs := [.ptr 0 0 [], .d (eA22 a0)]) (r := .res [.d (.val (.int .i64 y1.1)), .d (.val (.bool y1.2))]) (fun i => i) [] hgl (by rfl) (cal_f en119) rfl (by rfl) (by rfl) (by rfl) (by rfl) (.cons (.same _) (.cons (.same _) .nil)) rfl rfl (F119_shard_part_find_363_ok hy2)) rfl (.c rfl (.c rfl .nil)) (.cons rfl (.cons rfl .nil)) .nil ?_
 refine .m rfl ?_
 refine .v (f_extract (by rfl) rfl) rfl (.c rfl .nil) .nil ?_
 refine .v (f_extract (by rfl) rfl) rfl (.c rfl .nil) .nil ?_
 refine .a rfl ?_
 refine .a rfl ?_
 refine .nil (aq_then ?_)
 refine aw_seq ?_
 refine aw_rs ?_
 refine .m rfl ?_
 refine .v (f_not (by rfl)) rfl (.c rfl .nil) .nil ?_
 refine .nil (aq_then ?_)
 refine aw_cond rfl (fun hc3 => ?_) (fun hc3 => ?_)
 ·replace h := ite_t hc3 h
  refine aw_rs ?_
  refine .l 3 0 [] (.d (eA22 a0)) (.d (eA22 a0)) ty23 ?_
  refine .v (f_build (xs := [(0, .d (eA22 a0))]) (z' := .st [.d (eA22 a0), .d (.val (.slice none 0 0))]) (by rfl) zrv26 ag26 rfl (by rfl) ⟨_, _, _, rfl, pl26_0, rfl, rfl, trivial⟩ (by rfl) (by rfl)) rfl (.c rfl .nil) .nil ?_
  refine .s (f_store (n := 0) (o := 4) (off := 0) (p := []) (c := .st [.d (eA22 (List.replicate 32 (0 : Int))), .d (.val (.slice none 0 0))]) (old := .st [.d (eA22 (List.replicate 32 (0 : Int))), .d (.val (.slice none 0 0))]) (z := .st [.d (eA22 a0), .d (.val (.slice none 0 0))]) (c' := .st [.d (eA22 a0), .d (.val (.slice none 0 0))]) rfl rfl (by rfl) ty26 (by rfl)) rfl (.c rfl (.c rfl .nil)) (.cons rfl .nil) ?_
  refine .nil (aq_then ?_)
  refine aw_ret ?_
  refine aq_then_ret ?_
  obtain rfl := Option.some.inj h
  refine aq_freezeH [] [(4, .ptr 4 0 [])] [(4, .av (.d (eGLine (⟨a0, []⟩ : GLine))))] .nil (.keep rfl .nil) (.cons rfl (by rfl) (.st (.cons (.same _) (.cons .nil .nil))) .nil) ?_
  refine aq_weak (s' := ⟨[(4, .ptr 4 0 [])], [(4, .av (.d (eGLine (⟨a0, []⟩ : GLine)))), (0, .av (.st [.st [.slc 1 0 ((a1).length) 33]])), (1, .av (.d (.arr 33 ((a1).length) ((a1).map eGLine))))], []⟩) id hb0 (.keep rfl .nil) (.keep rfl (.keep rfl (.keep rfl .nil))) rfl (by rfl) ?_
  exact aq_fin1 (.cell rfl rfl ty26 (by rfl) .nil) rfl ⟨rfl, rfl⟩
 replace h := ite_f hc3 h
 refine aw_skip ?_
 refine aq_then ?_
 refine aw_rs ?_
 refine .m rfl ?_
 refine .v (f_nilCheck (by rfl)) rfl (.c rfl .nil) .nil ?_
 refine .v (f_fieldAddr (n := 0) (by rfl) fl132_0 (by decide)) rfl (.c rfl .nil) .nil ?_
 refine .v (f_fieldAddr (n := 0) (by rfl) fl74_0 (by decide)) rfl (.c rfl .nil) .nil ?_
 refine .l 0 ((0 + 0) + 0) [0, 0] (.st [.st [.slc 1 0 ((a1).length) 33]]) (.slc 1 0 ((a1).length) 33) ty72 ?_
 refine .m rfl ?_
 obtain ⟨x4, hx5, h⟩ := bind_some h
 obtain ⟨hx6, hx5⟩ := rd_some hx5
 refine .v (f_indexSW (by rfl) sl72 hx6 (rd_map _ hx5)) rfl (.c rfl (.c rfl .nil)) (.cons rfl .nil) ?_
 refine .v (f_load (n := 0) (o := 1) (off := ((0 + (y1.1).toNat) * 33)) (p := [0 + (y1.1).toNat]) (c := .d (.arr 33 ((a1).length) ((a1).map eGLine))) (z := .d (eGLine x4)) (by rfl) (at_map _ (by simpa using hx5) rfl) ty26 (by rfl)) rfl (.c rfl .nil) (.cons rfl .nil) ?_
 refine .s (f_store (n := 0) (o := 4) (off := 0) (p := []) (c := .st [.d (eA22 (List.replicate 32 (0 : Int))), .d (.val (.slice none 0 0))]) (old := .st [.d (eA22 (List.replicate 32 (0 : Int))), .d (.val (.slice none 0 0))]) (z := .d (eGLine x4)) (c' := .d (eGLine x4)) rfl rfl (by rfl) ty26 (by rfl)) rfl (.c rfl (.c rfl .nil)) (.cons rfl .nil) ?_
 refine .nil (aq_then ?_)
 refine aw_ret ?_
 obtain rfl := Option.some.inj h
 refine aq_weak (s' := ⟨[(4, .ptr 4 0 [])], [(4, .av (.d (eGLine x4))), (0, .av (.st [.st [.slc 1 0 ((a1).length) 33]])), (1, .av (.d (.arr 33 ((a1).length) ((a1).map eGLine))))], []⟩) id hb0 (.keep rfl .nil) (.keep rfl (.keep rfl (.keep rfl .nil))) rfl (by rfl) ?_
 exact aq_fin1 (.cell rfl rfl ty26 (by rfl) .nil) rfl ⟨rfl, rfl⟩

/- 34: beadroll/queue.Put -/
def F34_queue_Put (n : Nat) (a0 : GLine) (a1 : GTx) : Option (GLine × (List GTx) × Int) :=
  ((F18_queue_Check n a0).bind fun (y1 : Int) => (if (y1 != (0 : Int)) = true then some ((⟨(List.replicate 32 (0 : Int)), []⟩ : GLine), [], (8 : Int)) else ((F77_queue_own n a1 a0.From).bind fun (y4 : Bool) => (if (!y4) = true then some ((⟨(List.replicate 32 (0 : Int)), []⟩ : GLine), [], (2 : Int)) else ((F74_queue_nonces n a0).bind fun (y7 : (List GTx)) => ((F75_api_Tx_ahead_844 n y7 a1.Nonce).bind fun (y9 : Int) => ((F47_queue_Twin n a0).bind fun (y11 : (List Int) × List GTx) => (((if (decide (y9 < ((a0.Txs).length : Int))) = true then ((rd a0.Txs y9).bind fun (x14 : GTx) => some (x14.Nonce == a1.Nonce)) else some false)).bind fun (o17 : Bool) => (if o17 = true then ((rd a0.Txs y9).bind fun (x19 : GTx) => (if (decide (a1.Fee ≤ x19.Fee)) = true then some ((⟨(List.replicate 32 (0 : Int)), []⟩ : GLine), [], (190 : Int)) else ((rd y11.2 y9).bind fun (x23 : GTx) => ((rd a0.Txs y9).bind fun (x26 : GTx) => some ((⟨y11.1, (y11.2.set (0 + (y9).toNat) a1)⟩ : GLine), ([x26] : List GTx), (0 : Int)))))) else (if (((a0.Txs).length : Int) == (256 : Int)) = true then some ((⟨(List.replicate 32 (0 : Int)), []⟩ : GLine), [], (9 : Int)) else ((F83_Insert n y9 y11.2 ([a1] : List GTx)).bind fun (y30 : List GTx) => some ((⟨y11.1, y30⟩ : GLine), [], (0 : Int)))))))))))))
theorem F34_queue_Put_ok {n : Nat} {a0 : GLine} {a1 : GTx} {r : GLine × (List GTx) × Int} (h : F34_queue_Put n a0 a1 = some r) :
    ACall Tryd.prog GS 34 [.d (eGLine a0), .d (eGTx a1)] [] (fun r' hp' => r' = .res [.d (eGLine r.1), .d (eL24 r.2.1), .d (.val (.int .i64 r.2.2))] ∧ hp' = []) := by
 refine acall_of_body mixed Tryd.func34 rfl (by rfl) ?_
 intro C hro hgl hb0
 unfold F34_queue_Put at h
 refine aw_rs ?_
 refine .n (f_box 2 (by rfl) (by rfl)) rfl (.c rfl .nil) rfl ?_
 refine .n (f_box 3 (by rfl) (by rfl)) rfl (.c rfl .nil) rfl ?_
 refine .n (f_alloc 4 (by rfl) zrv26) rfl .nil rfl ?_
 refine .a rfl ?_
 refine .a rfl ?_
 refine .nil (aq_then ?_)
 refine aw_seq ?_
 refine aw_block ?_
 refine aw_rs ?_
 refine .l 2 0 [] (.d (eGLine a0)) (.d (eGLine a0)) ty26 ?_
 obtain ⟨y1, hy2, h⟩ := bind_some h
 refine .v (f_callP hgl (by rfl) en18 rfl (by rfl) (by rfl) (by rfl) (F18_queue_Check_ok hy2)) rfl (.c rfl .nil) .nil ?_
 refine .b rfl rfl rfl ?_
 refine .a rfl ?_
 refine .nil (aq_then ?_)
 refine aw_cond rfl (fun hc3 => ?_) (fun hc3 => ?_)
 ·replace h := ite_t hc3 h
  refine aw_rs ?_
  refine .l 4 0 [] (.st [.d (eA22 (List.replicate 32 (0 : Int))), .d (.val (.slice none 0 0))]) (.st [.d (eA22 (List.replicate 32 (0 : Int))), .d (.val (.slice none 0 0))]) ty26 ?_
  refine .s (f_store (n := 0) (o := 4) (off := 0) (p := []) (c := .st [.d (eA22 (List.replicate 32 (0 : Int))), .d (.val (.slice none 0 0))]) (old := .st [.d (eA22 (List.replicate 32 (0 : Int))), .d (.val (.slice none 0 0))]) (z := .st [.d (eA22 (List.replicate 32 (0 : Int))), .d (.val (.slice none 0 0))]) (c' := .st [.d (eA22 (List.replicate 32 (0 : Int))), .d (.val (.slice none 0 0))]) rfl rfl (by rfl) ty26 (by rfl)) rfl (.c rfl (.c rfl .nil)) (.cons rfl .nil) ?_
  refine .a rfl ?_
  refine .a rfl ?_
  refine .nil (aq_then ?_)
  refine aw_ret ?_
  refine aq_block_ret ?_
  refine aq_then_ret ?_
  obtain rfl := Option.some.inj h
  refine aq_freezeH [] [(4, .ptr 4 0 []), (5, .d (eL24 ([]))), (6, .d (.val (.int .i64 (8 : Int))))] [(4, .av (.d (eGLine (⟨(List.replicate 32 (0 : Int)), []⟩ : GLine))))] .nil (.keep rfl (.cons rfl .nil (.keep rfl .nil))) (.cons rfl (by rfl) (.st (.cons (.same _) (.cons .nil .nil))) .nil) ?_
  exact aq_finp hb0 rfl (.cell rfl rfl ty26 (by rfl) (.tmp rfl (by rfl) (.tmp rfl (by rfl) .nil))) (by rfl) rfl ⟨rfl, rfl⟩
 replace h := ite_f hc3 h
 refine aw_rs ?_
 refine .l 3 0 [] (.d (eGTx a1)) (.d (eGTx a1)) ty36 ?_
 refine .v (f_fieldAddr (n := 0) (by rfl) fl26_0 (by decide)) rfl (.c rfl .nil) .nil ?_
 refine .l 2 (0 + 0) [0] (.d (eGLine a0)) (.d (eA22 a0.From)) ty23 ?_
 obtain ⟨y4, hy5, h⟩ := bind_some h
 refine .v (f_callP hgl (by rfl) en77 rfl (by rfl) (by rfl) (by rfl) (F77_queue_own_ok hy5)) rfl (.c rfl (.c rfl .nil)) .nil ?_
 refine .v (f_not (by rfl)) rfl (.c rfl .nil) .nil ?_
 refine .a rfl ?_
 refine .nil (aq_then ?_)
 refine aw_cond rfl (fun hc6 => ?_) (fun hc6 => ?_)
 ·replace h := ite_t hc6 h
  refine aw_rs ?_
  refine .l 4 0 [] (.st [.d (eA22 (List.replicate 32 (0 : Int))), .d (.val (.slice none 0 0))]) (.st [.d (eA22 (List.replicate 32 (0 : Int))), .d (.val (.slice none 0 0))]) ty26 ?_
  refine .s (f_store (n := 0) (o := 4) (off := 0) (p := []) (c := .st [.d (eA22 (List.replicate 32 (0 : Int))), .d (.val (.slice none 0 0))]) (old := .st [.d (eA22 (List.replicate 32 (0 : Int))), .d (.val (.slice none 0 0))]) (z := .st [.d (eA22 (List.replicate 32 (0 : Int))), .d (.val (.slice none 0 0))]) (c' := .st [.d (eA22 (List.replicate 32 (0 : Int))), .d (.val (.slice none 0 0))]) rfl rfl (by rfl) ty26 (by rfl)) rfl (.c rfl (.c rfl .nil)) (.cons rfl .nil) ?_
  refine .a rfl ?_
  refine .a rfl ?_
  refine .nil (aq_then ?_)
  refine aw_ret ?_
  refine aq_block_ret ?_
  refine aq_then_ret ?_
  obtain rfl := Option.some.inj h
  refine aq_freezeH [] [(4, .ptr 4 0 []), (5, .d (eL24 ([]))), (6, .d (.val (.int .i64 (2 : Int))))] [(4, .av (.d (eGLine (⟨(List.replicate 32 (0 : Int)), []⟩ : GLine))))] .nil (.keep rfl (.cons rfl .nil (.keep rfl .nil))) (.cons rfl (by rfl) (.st (.cons (.same _) (.cons .nil .nil))) .nil) ?_
  exact aq_finp hb0 rfl (.cell rfl rfl ty26 (by rfl) (.tmp rfl (by rfl) (.tmp rfl (by rfl) .nil))) (by rfl) rfl ⟨rfl, rfl⟩
 replace h := ite_f hc6 h
 refine aw_skip ?_
 refine aq_block ?_
 refine aq_then ?_
 refine aw_rds ?_
 refine .v (f_load (n := 0) (o := 2) (off := 0) (p := []) (c := .d (eGLine a0)) (z := .d (eGLine a0)) (by rfl) rfl ty26 (by rfl)) rfl (.c rfl .nil) (.cons rfl .nil) ?_
 obtain ⟨y7, hy8, h⟩ := bind_some h
 refine .w (f_callG (xs := [.d (eGLine a0)]) (r := .st [.d (eL24 y7), .fn (.func 111) [] []]) (hw := [(1071, .av (.st [.d (eL24 y7), .fn (.func 111) [] []]))]) (fun i => bif Nat.beq i 2 then 1071 else i) [] hgl (by rfl) (cal_f en74) rfl (by rfl) (by rfl) (by rfl) (by rfl) (.cons (.same _) .nil) rfl rfl rfl rfl (F74_queue_nonces_ok hy8)) rfl (.c rfl .nil) .nil (.cons rfl .nil) ?_
 refine .v (f_fieldAddr (n := 64) (by rfl) fl36_2 (by decide)) rfl (.c rfl .nil) .nil ?_
 refine .v (f_load (n := 0) (o := 3) (off := (0 + 64)) (p := [2]) (c := .d (eGTx a1)) (z := .d (.val (.int .u64 a1.Nonce))) (by rfl) rfl ty27 (by rfl)) rfl (.c rfl .nil) (.cons rfl .nil) ?_
 obtain ⟨y9, hy10, h⟩ := bind_some h
 refine .w (f_callG0 (xs := [.st [.d (eL24 y7), .fn (.func 111) [] []], .d (.val (.int .u64 a1.Nonce))]) (r := .d (.val (.int .i64 y9))) (fun i => i) [] hgl (by rfl) (cal_f en75) rfl (by rfl) (by rfl) (by rfl) (by rfl) (.cons (.same _) (.cons (.same _) .nil)) rfl rfl (F75_api_Tx_ahead_844_ok hy10)) rfl (.c rfl (.c rfl .nil)) .nil .nil ?_
 refine .v (f_assign (by rfl)) rfl (.c rfl .nil) .nil ?_
 refine .nil (by kernel_rfl) ?_
 refine aw_rs ?_
 refine .l 2 0 [] (.d (eGLine a0)) (.d (eGLine a0)) ty26 ?_
 obtain ⟨y11, hy12, h⟩ := bind_some h
 refine .w (f_callG (xs := [.d (eGLine a0)]) (r := .st [.d (eA22 y11.1), .slc 1073 0 ((y11.2).length) 99]) (hw := [(1072, .av (.st [.d (eA22 y11.1), .slc 1073 0 ((y11.2).length) 99])), (1073, .av (.d (.arr 99 ((y11.2).length) ((y11.2).map eGTx))))]) (fun i => bif Nat.beq i 1067 then 1073 else (bif Nat.beq i 2 then 1072 else i)) [] hgl (by rfl) (cal_f en47) rfl (by rfl) (by rfl) (by rfl) (by rfl) (.cons (.same _) .nil) rfl rfl rfl rfl (F47_queue_Twin_ok hy12)) rfl (.c rfl .nil) .nil (.cons rfl (.cons rfl .nil)) ?_
 refine .s (f_store (n := 0) (o := 4) (off := 0) (p := []) (c := .st [.d (eA22 (List.replicate 32 (0 : Int))), .d (.val (.slice none 0 0))]) (old := .st [.d (eA22 (List.replicate 32 (0 : Int))), .d (.val (.slice none 0 0))]) (z := .st [.d (eA22 y11.1), .slc 1073 0 ((y11.2).length) 99]) (c' := .st [.d (eA22 y11.1), .slc 1073 0 ((y11.2).length) 99]) rfl rfl (by rfl) ty26 (by rfl)) rfl (.c rfl (.c rfl .nil)) (.cons rfl .nil) ?_
 refine .nil (aq_then ?_)
 refine aw_seq ?_
 refine aw_seq ?_
 obtain ⟨o17, ho32, h⟩ := bind_some h
 refine aw_join (.normal) ⟨[(2, .ptr 2 0 []), (3, .ptr 3 0 []), (4, .ptr 4 0 []), (7, .d (.val (.int .i64 y9))), (42, .d (.val (.bool o17)))], [(2, .av (.d (eGLine a0))), (3, .av (.d (eGTx a1))), (4, .av (.st [.d (eA22 y11.1), .slc 1073 0 ((y11.2).length) 99])), (1073, .av (.d (.arr 99 ((y11.2).length) ((y11.2).map eGTx))))], []⟩ ?_ ?_
 ·replace h := ho32
  refine aw_rd ?_
  refine .v (f_move (by rfl)) rfl (.c rfl .nil) .nil ?_
  refine .v (f_fieldAddr (n := 32) (by rfl) fl26_1 (by decide)) rfl (.c rfl .nil) .nil ?_
  refine .v (f_load (n := 0) (o := 2) (off := (0 + 32)) (p := [1]) (c := .d (eGLine a0)) (z := .d (eL24 a0.Txs)) (by rfl) rfl ty24 (by rfl)) rfl (.c rfl .nil) (.cons rfl .nil) ?_
  refine .v (f_lenD (n := (a0.Txs).length) (by rfl) sl24 rfl (by simp)) rfl (.c rfl .nil) .nil ?_
  refine .v (f_binI (by rfl) rfl (by rfl)) rfl (.c rfl (.c rfl .nil)) .nil ?_
  refine .v (f_move (by rfl)) rfl (.c rfl .nil) .nil ?_
  rcases Bool.eq_false_or_eq_true (decide (y9 < ((a0.Txs).length : Int))) with hc13 | hc13
  ·replace h := ite_t hc13 h
   refine .gv (f_fieldAddr (n := 32) (by rfl) fl26_1 (by decide)) rfl rfl rfl hc13 (.c rfl .nil) .nil ?_
   refine .gv (f_load (n := 0) (o := 2) (off := (0 + 32)) (p := [1]) (c := .d (eGLine a0)) (z := .d (eL24 a0.Txs)) (by rfl) rfl ty24 (by rfl)) rfl rfl rfl hc13 (.c rfl .nil) (.cons rfl .nil) ?_
   refine .gv (f_move (by rfl)) rfl rfl rfl hc13 (.c rfl .nil) .nil ?_
   obtain ⟨x14, hx15, h⟩ := bind_some h
   obtain ⟨hx16, hx15⟩ := rd_some hx15
   refine .gv (f_indexS (by rfl) sl24 hx16 (rd_map _ hx15)) rfl rfl rfl hc13 (.c rfl (.c rfl .nil)) .nil ?_
   refine .gv (f_fieldAddrR (by rfl) fl36_2 (by decide) rfl) rfl rfl rfl hc13 (.c rfl .nil) .nil ?_
   refine .gv (f_loadR (z := (.val (.int .u64 x14.Nonce))) (by rfl) ty27) rfl rfl rfl hc13 (.c rfl .nil) .nil ?_
   refine .gv (f_fieldAddr (n := 64) (by rfl) fl36_2 (by decide)) rfl rfl rfl hc13 (.c rfl .nil) .nil ?_
   refine .gv (f_load (n := 0) (o := 3) (off := (0 + 64)) (p := [2]) (c := .d (eGTx a1)) (z := .d (.val (.int .u64 a1.Nonce))) (by rfl) rfl ty27 (by rfl)) rfl rfl rfl hc13 (.c rfl .nil) (.cons rfl .nil) ?_
   refine .gv (f_binI (by rfl) rfl (by rfl)) rfl rfl rfl hc13 (.c rfl (.c rfl .nil)) .nil ?_
   refine .v (f_pick_true (by rfl) hc13) rfl (.c rfl (.c rfl .nil)) .nil ?_
   refine .nil (by kernel_rfl) ?_
   obtain rfl := Option.some.inj h
   refine aq_weak (s' := ⟨[(2, .ptr 2 0 []), (3, .ptr 3 0 []), (4, .ptr 4 0 []), (7, .d (.val (.int .i64 y9))), (42, .d (.val (.bool (x14.Nonce == a1.Nonce))))], [(2, .av (.d (eGLine a0))), (3, .av (.d (eGTx a1))), (4, .av (.st [.d (eA22 y11.1), .slc 1073 0 ((y11.2).length) 99])), (1073, .av (.d (.arr 99 ((y11.2).length) ((y11.2).map eGTx))))], []⟩) id hb0 (.keep rfl (.keep rfl (.keep rfl (.keep rfl (.keep rfl .nil))))) (.keep rfl (.keep rfl (.keep rfl (.keep rfl .nil)))) rfl (by rfl) ?_
   exact jq
  replace h := ite_f hc13 h
  refine .off rfl rfl rfl hc13 rfl (by rfl) ?_
  refine .off rfl rfl rfl hc13 rfl (by rfl) ?_
  refine .off rfl rfl rfl hc13 rfl (by rfl) ?_
  refine .off rfl rfl rfl hc13 rfl (by rfl) ?_
  refine .off rfl rfl rfl hc13 rfl (by rfl) ?_
  refine .off rfl rfl rfl hc13 rfl (by rfl) ?_
  refine .off rfl rfl rfl hc13 rfl (by rfl) ?_
  refine .off rfl rfl rfl hc13 rfl (by rfl) ?_
  refine .off rfl rfl rfl hc13 rfl (by rfl) ?_
  refine .v (f_pick_false (by rfl) hc13) rfl (.c rfl (.c rfl .nil)) .nil ?_
  refine .nil (by kernel_rfl) ?_
  obtain rfl := Option.some.inj h
  refine aq_weak (s' := ⟨[(2, .ptr 2 0 []), (3, .ptr 3 0 []), (4, .ptr 4 0 []), (7, .d (.val (.int .i64 y9))), (42, .d (.val (.bool false)))], [(2, .av (.d (eGLine a0))), (3, .av (.d (eGTx a1))), (4, .av (.st [.d (eA22 y11.1), .slc 1073 0 ((y11.2).length) 99])), (1073, .av (.d (.arr 99 ((y11.2).length) ((y11.2).map eGTx))))], []⟩) id hb0 (.keep rfl (.keep rfl (.keep rfl (.keep rfl (.keep rfl .nil))))) (.keep rfl (.keep rfl (.keep rfl (.keep rfl .nil)))) rfl (by rfl) ?_
  exact jq
 refine aq_then ?_
 refine aw_cond rfl (fun hc18 => ?_) (fun hc18 => ?_)
 ·replace h := ite_t hc18 h
  refine aw_seq ?_
  refine aw_rds ?_
  refine .v (f_fieldAddr (n := 66) (by rfl) fl36_4 (by decide)) rfl (.c rfl .nil) .nil ?_
  refine .v (f_load (n := 0) (o := 3) (off := (0 + 66)) (p := [4]) (c := .d (eGTx a1)) (z := .d (.val (.int .u64 a1.Fee))) (by rfl) rfl ty27 (by rfl)) rfl (.c rfl .nil) (.cons rfl .nil) ?_
  refine .v (f_fieldAddr (n := 32) (by rfl) fl26_1 (by decide)) rfl (.c rfl .nil) .nil ?_
  refine .v (f_load (n := 0) (o := 2) (off := (0 + 32)) (p := [1]) (c := .d (eGLine a0)) (z := .d (eL24 a0.Txs)) (by rfl) rfl ty24 (by rfl)) rfl (.c rfl .nil) (.cons rfl .nil) ?_
  refine .v (f_move (by rfl)) rfl (.c rfl .nil) .nil ?_
  obtain ⟨x19, hx20, h⟩ := bind_some h
  obtain ⟨hx21, hx20⟩ := rd_some hx20
  refine .v (f_indexS (by rfl) sl24 hx21 (rd_map _ hx20)) rfl (.c rfl (.c rfl .nil)) .nil ?_
  refine .v (f_fieldAddrR (by rfl) fl36_4 (by decide) rfl) rfl (.c rfl .nil) .nil ?_
  refine .v (f_loadR (z := (.val (.int .u64 x19.Fee))) (by rfl) ty27) rfl (.c rfl .nil) .nil ?_
  refine .v (f_binI (by rfl) rfl (by rfl)) rfl (.c rfl (.c rfl .nil)) .nil ?_
  refine .nil (by kernel_rfl) ?_
  refine aw_cond rfl (fun hc22 => ?_) (fun hc22 => ?_)
  ·replace h := ite_t hc22 h
   refine aw_rs ?_
   refine .v (f_build (xs := []) (z' := .st [.d (eA22 (List.replicate 32 (0 : Int))), .d (.val (.slice none 0 0))]) (by rfl) zrv26 ag26 rfl (by rfl) trivial (by rfl) (by rfl)) rfl .nil .nil ?_
   refine .s (f_store (n := 0) (o := 4) (off := 0) (p := []) (c := .st [.d (eA22 y11.1), .slc 1073 0 ((y11.2).length) 99]) (old := .st [.d (eA22 y11.1), .slc 1073 0 ((y11.2).length) 99]) (z := .st [.d (eA22 (List.replicate 32 (0 : Int))), .d (.val (.slice none 0 0))]) (c' := .st [.d (eA22 (List.replicate 32 (0 : Int))), .d (.val (.slice none 0 0))]) rfl rfl (by rfl) ty26 (by rfl)) rfl (.c rfl (.c rfl .nil)) (.cons rfl .nil) ?_
   refine .a rfl ?_
   refine .a rfl ?_
   refine .nil (aq_then ?_)
   refine aw_ret ?_
   refine aq_then_ret ?_
   refine aq_then_ret ?_
   obtain rfl := Option.some.inj h
   refine aq_freezeH [] [(4, .ptr 4 0 []), (5, .d (eL24 ([]))), (6, .d (.val (.int .i64 (190 : Int))))] [(4, .av (.d (eGLine (⟨(List.replicate 32 (0 : Int)), []⟩ : GLine))))] .nil (.keep rfl (.cons rfl .nil (.keep rfl .nil))) (.cons rfl (by rfl) (.st (.cons (.same _) (.cons .nil .nil))) .nil) ?_
   exact aq_finp hb0 rfl (.cell rfl rfl ty26 (by rfl) (.tmp rfl (by rfl) (.tmp rfl (by rfl) .nil))) (by rfl) rfl ⟨rfl, rfl⟩
  replace h := ite_f hc22 h
  refine aw_skip ?_
  refine aq_then ?_
  refine aw_rs ?_
  refine .v (f_fieldAddr (n := 32) (by rfl) fl26_1 (by decide)) rfl (.c rfl .nil) .nil ?_
  refine .l 4 (0 + 32) [1] (.st [.d (eA22 y11.1), .slc 1073 0 ((y11.2).length) 99]) (.slc 1073 0 ((y11.2).length) 99) ty24 ?_
  refine .m rfl ?_
  refine .l 3 0 [] (.d (eGTx a1)) (.d (eGTx a1)) ty36 ?_
  obtain ⟨x23, hx24, h⟩ := bind_some h
  obtain ⟨hx25, hx24⟩ := rd_some hx24
  refine .v (f_indexSW (by rfl) sl24 hx25 (rd_map _ hx24)) rfl (.c rfl (.c rfl .nil)) (.cons rfl .nil) ?_
  refine .s (f_store (n := 0) (o := 1073) (off := ((0 + (y9).toNat) * 99)) (p := [0 + (y9).toNat]) (c := .d (.arr 99 ((y11.2).length) ((y11.2).map eGTx))) (old := .d (eGTx x23)) (z := .d (eGTx a1)) (c' := .d (.arr 99 ((y11.2).length) (((y11.2.set (0 + (y9).toNat) a1)).map eGTx))) (at_map _ (by simpa using hx24) rfl) (put_map _ (by simpa using hx24)) (by rfl) ty36 (by rfl)) rfl (.c rfl (.c rfl .nil)) (.cons rfl .nil) ?_
  refine .nil (aq_then ?_)
  refine aw_rds ?_
  refine .v (f_load (n := 0) (o := 4) (off := 0) (p := []) (c := .st [.d (eA22 y11.1), .slc 1073 0 ((y11.2).length) 99]) (z := .st [.d (eA22 y11.1), .slc 1073 0 ((y11.2).length) 99]) (by rfl) rfl ty26 (by rfl)) rfl (.c rfl .nil) (.cons rfl .nil) ?_
  refine .v (f_fieldAddr (n := 32) (by rfl) fl26_1 (by decide)) rfl (.c rfl .nil) .nil ?_
  refine .v (f_load (n := 0) (o := 2) (off := (0 + 32)) (p := [1]) (c := .d (eGLine a0)) (z := .d (eL24 a0.Txs)) (by rfl) rfl ty24 (by rfl)) rfl (.c rfl .nil) (.cons rfl .nil) ?_
  refine .v (f_move (by rfl)) rfl (.c rfl .nil) .nil ?_
  obtain ⟨x26, hx27, h⟩ := bind_some h
  obtain ⟨hx28, hx27⟩ := rd_some hx27
  refine .v (f_indexS (by rfl) sl24 hx28 (rd_map _ hx27)) rfl (.c rfl (.c rfl .nil)) .nil ?_
  refine .v (f_loadR (z := (eGTx x26)) (by rfl) ty36) rfl (.c rfl .nil) .nil ?_
  refine .n (f_buildS (xs := [(0, .d (eGTx x26))]) (z := (.st [(eA22 (List.replicate 32 (0 : Int))), (eA22 (List.replicate 32 (0 : Int))), (.val (.int .u64 (0 : Int))), (.val (.int .u64 (0 : Int))), (.val (.int .u64 (0 : Int))), (eA22 (List.replicate 32 (0 : Int)))])) (zs := (([x26] : List GTx)).map eGTx) 1074 (by rfl) el24 zel24 (by rfl) (by decide) (by decide) rfl (by rfl) ⟨_, _, _, rfl, pl24_0, rfl, rfl, trivial⟩ (by rfl)) rfl (.c rfl .nil) rfl ?_
  refine .s (f_store (n := 0) (o := 4) (off := 0) (p := []) (c := .st [.d (eA22 y11.1), .slc 1073 0 ((y11.2).length) 99]) (old := .st [.d (eA22 y11.1), .slc 1073 0 ((y11.2).length) 99]) (z := .st [.d (eA22 y11.1), .slc 1073 0 ((y11.2).length) 99]) (c' := .st [.d (eA22 y11.1), .slc 1073 0 ((y11.2).length) 99]) rfl rfl (by rfl) ty26 (by rfl)) rfl (.c rfl (.c rfl .nil)) (.cons rfl .nil) ?_
  refine .v (f_assign (by rfl)) rfl (.c rfl .nil) .nil ?_
  refine .v (f_assign (by rfl)) rfl (.c rfl .nil) .nil ?_
  refine .nil (by kernel_rfl) ?_
  refine aw_ret ?_
  refine aq_then_ret ?_
  obtain rfl := Option.some.inj h
  refine aq_freezeH [(1074, (.arr 99 ((([x26] : List GTx)).length) ((([x26] : List GTx)).map eGTx))), (1073, (.arr 99 ((y11.2).length) (((y11.2.set (0 + (y9).toNat) a1)).map eGTx)))] [(4, .ptr 4 0 []), (5, .d (eL24 ([x26] : List GTx))), (6, .d (.val (.int .i64 (0 : Int))))] [(4, .av (.d (eGLine (⟨y11.1, (y11.2.set (0 + (y9).toNat) a1)⟩ : GLine))))] (.cons rfl (.cons rfl .nil)) (.keep rfl (.cons rfl (.whole (.head _)) (.keep rfl .nil))) (.cons rfl (by rfl) (.st (.cons (.same _) (.cons (.whole (.tail _ (.head _))) .nil))) .nil) ?_
  exact aq_finp hb0 rfl (.cell rfl rfl ty26 (by rfl) (.tmp rfl (by rfl) (.tmp rfl (by rfl) .nil))) (by rfl) rfl ⟨rfl, rfl⟩
 replace h := ite_f hc18 h
 refine aw_skip ?_
 refine aq_then ?_
 refine aw_seq ?_
 refine aw_rs ?_
 refine .v (f_fieldAddr (n := 32) (by rfl) fl26_1 (by decide)) rfl (.c rfl .nil) .nil ?_
 refine .l 2 (0 + 32) [1] (.d (eGLine a0)) (.d (eL24 a0.Txs)) ty24 ?_
 refine .v (f_lenD (n := (a0.Txs).length) (by rfl) sl24 rfl (by simp)) rfl (.c rfl .nil) .nil ?_
 refine .b rfl rfl rfl ?_
 refine .nil (aq_then ?_)
 refine aw_cond rfl (fun hc29 => ?_) (fun hc29 => ?_)
 ·replace h := ite_t hc29 h
  refine aw_rs ?_
  refine .v (f_build (xs := []) (z' := .st [.d (eA22 (List.replicate 32 (0 : Int))), .d (.val (.slice none 0 0))]) (by rfl) zrv26 ag26 rfl (by rfl) trivial (by rfl) (by rfl)) rfl .nil .nil ?_
  refine .s (f_store (n := 0) (o := 4) (off := 0) (p := []) (c := .st [.d (eA22 y11.1), .slc 1073 0 ((y11.2).length) 99]) (old := .st [.d (eA22 y11.1), .slc 1073 0 ((y11.2).length) 99]) (z := .st [.d (eA22 (List.replicate 32 (0 : Int))), .d (.val (.slice none 0 0))]) (c' := .st [.d (eA22 (List.replicate 32 (0 : Int))), .d (.val (.slice none 0 0))]) rfl rfl (by rfl) ty26 (by rfl)) rfl (.c rfl (.c rfl .nil)) (.cons rfl .nil) ?_
  refine .a rfl ?_
  refine .a rfl ?_
  refine .nil (aq_then ?_)
  refine aw_ret ?_
  refine aq_then_ret ?_
  obtain rfl := Option.some.inj h
  refine aq_freezeH [] [(4, .ptr 4 0 []), (5, .d (eL24 ([]))), (6, .d (.val (.int .i64 (9 : Int))))] [(4, .av (.d (eGLine (⟨(List.replicate 32 (0 : Int)), []⟩ : GLine))))] .nil (.keep rfl (.cons rfl .nil (.keep rfl .nil))) (.cons rfl (by rfl) (.st (.cons (.same _) (.cons .nil .nil))) .nil) ?_
  exact aq_finp hb0 rfl (.cell rfl rfl ty26 (by rfl) (.tmp rfl (by rfl) (.tmp rfl (by rfl) .nil))) (by rfl) rfl ⟨rfl, rfl⟩
 replace h := ite_f hc29 h
 refine aw_skip ?_
 refine aq_then ?_
 refine aw_rs ?_
 refine .v (f_fieldAddr (n := 32) (by rfl) fl26_1 (by decide)) rfl (.c rfl .nil) .nil ?_
 refine .l 4 (0 + 32) [1] (.st [.d (eA22 y11.1), .slc 1073 0 ((y11.2).length) 99]) (.slc 1073 0 ((y11.2).length) 99) ty24 ?_
 refine .m rfl ?_
 refine .l 3 0 [] (.d (eGTx a1)) (.d (eGTx a1)) ty36 ?_
 refine .n (f_buildS (xs := [(0, .d (eGTx a1))]) (z := (.st [(eA22 (List.replicate 32 (0 : Int))), (eA22 (List.replicate 32 (0 : Int))), (.val (.int .u64 (0 : Int))), (.val (.int .u64 (0 : Int))), (.val (.int .u64 (0 : Int))), (eA22 (List.replicate 32 (0 : Int)))])) (zs := (([a1] : List GTx)).map eGTx) 1075 (by rfl) el24 zel24 (by rfl) (by decide) (by decide) rfl (by rfl) ⟨_, _, _, rfl, pl24_0, rfl, rfl, trivial⟩ (by rfl)) rfl (.c rfl .nil) rfl ?_
 obtain ⟨y30, hy31, h⟩ := bind_some h
 refine .w (f_callG (xs := [.slc 1073 0 ((y11.2).length) 99, .d (.val (.int .i64 y9)), .slc 1075 0 ((([a1] : List GTx)).length) 99]) (r := .slc 1076 0 ((y30).length) 99) (hw := [(1076, .av (.d (.arr 99 ((y30).length) ((y30).map eGTx)))), (1073, .dead), (1075, .av (.d (.arr 99 ((([a1] : List GTx)).length) ((([a1] : List GTx)).map eGTx))))]) (fun i => bif Nat.beq i 2 then 1076 else (bif Nat.beq i 1 then 1075 else (bif Nat.beq i 0 then 1073 else i))) [] hgl (by rfl) (cal_f en83) rfl (by rfl) (by rfl) (by rfl) (by rfl) (.cons (.same _) (.cons (.same _) (.cons (.same _) .nil))) rfl rfl rfl rfl (F83_Insert_ok hy31)) rfl (.c rfl (.c rfl (.c rfl .nil))) (.cons rfl (.cons rfl .nil)) (.cons rfl .nil) ?_
 refine .v (f_fieldAddr (n := 32) (by rfl) fl26_1 (by decide)) rfl (.c rfl .nil) .nil ?_
 refine .s (f_store (n := 0) (o := 4) (off := (0 + 32)) (p := [1]) (c := .st [.d (eA22 y11.1), .slc 1073 0 ((y11.2).length) 99]) (old := .slc 1073 0 ((y11.2).length) 99) (z := .slc 1076 0 ((y30).length) 99) (c' := .st [.d (eA22 y11.1), .slc 1076 0 ((y30).length) 99]) rfl rfl (by rfl) ty24 (by rfl)) rfl (.c rfl (.c rfl .nil)) (.cons rfl .nil) ?_
 refine .z ?_
 refine .l 4 0 [] (.st [.d (eA22 y11.1), .slc 1076 0 ((y30).length) 99]) (.st [.d (eA22 y11.1), .slc 1076 0 ((y30).length) 99]) ty26 ?_
 refine .s (f_store (n := 0) (o := 4) (off := 0) (p := []) (c := .st [.d (eA22 y11.1), .slc 1076 0 ((y30).length) 99]) (old := .st [.d (eA22 y11.1), .slc 1076 0 ((y30).length) 99]) (z := .st [.d (eA22 y11.1), .slc 1076 0 ((y30).length) 99]) (c' := .st [.d (eA22 y11.1), .slc 1076 0 ((y30).length) 99]) rfl rfl (by rfl) ty26 (by rfl)) rfl (.c rfl (.c rfl .nil)) (.cons rfl .nil) ?_
 refine .a rfl ?_
 refine .a rfl ?_
 refine .nil (aq_then ?_)
 refine aw_ret ?_
 obtain rfl := Option.some.inj h
 refine aq_freezeH [(1076, (.arr 99 ((y30).length) ((y30).map eGTx)))] [(4, .ptr 4 0 []), (5, .d (eL24 ([]))), (6, .d (.val (.int .i64 (0 : Int))))] [(4, .av (.d (eGLine (⟨y11.1, y30⟩ : GLine))))] (.cons rfl .nil) (.keep rfl (.cons rfl .nil (.keep rfl .nil))) (.cons rfl (by rfl) (.st (.cons (.same _) (.cons (.whole (.head _)) .nil))) .nil) ?_
 exact aq_finp hb0 rfl (.cell rfl rfl ty26 (by rfl) (.tmp rfl (by rfl) (.tmp rfl (by rfl) .nil))) (by rfl) rfl ⟨rfl, rfl⟩

/- 120: (*beadroll/shard.part).worst$1 -/
def F120_shard_part_worst_1_e00 (n : Nat) (a0 : Int) (a1 : (List GLine)) : Option (Int) :=
  ((rd a1 a0).bind fun (x1 : GLine) => ((rd a1 a0).bind fun (x4 : GLine) => ((rd x1.Txs (IntKind.i64.wrap (((x4.Txs).length : Int) - (1 : Int)))).bind fun (x7 : GTx) => some x7.Fee)))
theorem F120_shard_part_worst_1_e00_ok {n : Nat} {a0 : Int} {a1 : (List GLine)} {r : Int} (h : F120_shard_part_worst_1_e00 n a0 a1 = some r) :
    ACall Tryd.prog GS 120 [.d (.val (.int .i64 a0)), .ptr 0 0 []] [(0, .av (.ptr 1 0 [])), (1, .av (.st [.st [.slc 2 0 ((a1).length) 33]])), (2, .av (.d (.arr 33 ((a1).length) ((a1).map eGLine))))] (fun r' hp' => r' = .d (.val (.int .u64 r)) ∧ hp' = [(0, .av (.ptr 1 0 [])), (1, .av (.st [.st [.slc 2 0 ((a1).length) 33]])), (2, .av (.d (.arr 33 ((a1).length) ((a1).map eGLine))))]) := by
 refine acall_of_body mixed Tryd.func120 rfl (by rfl) ?_
 intro C hro hgl hb0
 unfold F120_shard_part_worst_1_e00 at h
 refine aw_rs ?_
 refine .a rfl ?_
 refine .nil (aq_then ?_)
 refine aw_rds ?_
 refine .v (f_load (n := 0) (o := 0) (off := 0) (p := []) (c := .ptr 1 0 []) (z := .ptr 1 0 []) (by rfl) rfl ty130 (by rfl)) rfl (.c rfl .nil) (.cons rfl .nil) ?_
 refine .v (f_nilCheck (by rfl)) rfl (.c rfl .nil) .nil ?_
 refine .v (f_fieldAddr (n := 0) (by rfl) fl132_0 (by decide)) rfl (.c rfl .nil) .nil ?_
 refine .v (f_fieldAddr (n := 0) (by rfl) fl74_0 (by decide)) rfl (.c rfl .nil) .nil ?_
 refine .v (f_load (n := 0) (o := 1) (off := ((0 + 0) + 0)) (p := [0, 0]) (c := .st [.st [.slc 2 0 ((a1).length) 33]]) (z := .slc 2 0 ((a1).length) 33) (by rfl) rfl ty72 (by rfl)) rfl (.c rfl .nil) (.cons rfl .nil) ?_
 refine .v (f_move (by rfl)) rfl (.c rfl .nil) .nil ?_
 obtain ⟨x1, hx2, h⟩ := bind_some h
 obtain ⟨hx3, hx2⟩ := rd_some hx2
 refine .v (f_indexSW (by rfl) sl72 hx3 (rd_map _ hx2)) rfl (.c rfl (.c rfl .nil)) (.cons rfl .nil) ?_
 refine .v (f_fieldAddr (n := 32) (by rfl) fl26_1 (by decide)) rfl (.c rfl .nil) .nil ?_
 refine .v (f_load (n := 0) (o := 2) (off := (((0 + (a0).toNat) * 33) + 32)) (p := [0 + (a0).toNat, 1]) (c := .d (.arr 33 ((a1).length) ((a1).map eGLine))) (z := .d (eL24 x1.Txs)) (by rfl) (at_map2 eGLine (by simpa using hx2) rfl rfl) ty24 (by rfl)) rfl (.c rfl .nil) (.cons rfl .nil) ?_
 refine .v (f_load (n := 0) (o := 0) (off := 0) (p := []) (c := .ptr 1 0 []) (z := .ptr 1 0 []) (by rfl) rfl ty130 (by rfl)) rfl (.c rfl .nil) (.cons rfl .nil) ?_
 refine .v (f_nilCheck (by rfl)) rfl (.c rfl .nil) .nil ?_
 refine .v (f_fieldAddr (n := 0) (by rfl) fl132_0 (by decide)) rfl (.c rfl .nil) .nil ?_
 refine .v (f_fieldAddr (n := 0) (by rfl) fl74_0 (by decide)) rfl (.c rfl .nil) .nil ?_
 refine .v (f_load (n := 0) (o := 1) (off := ((0 + 0) + 0)) (p := [0, 0]) (c := .st [.st [.slc 2 0 ((a1).length) 33]]) (z := .slc 2 0 ((a1).length) 33) (by rfl) rfl ty72 (by rfl)) rfl (.c rfl .nil) (.cons rfl .nil) ?_
 refine .v (f_move (by rfl)) rfl (.c rfl .nil) .nil ?_
 obtain ⟨x4, hx5, h⟩ := bind_some h
 obtain ⟨hx6, hx5⟩ := rd_some hx5
 refine .v (f_indexSW (by rfl) sl72 hx6 (rd_map _ hx5)) rfl (.c rfl (.c rfl .nil)) (.cons rfl .nil) ?_
 refine .v (f_fieldAddr (n := 32) (by rfl) fl26_1 (by decide)) rfl (.c rfl .nil) .nil ?_
 refine .v (f_load (n := 0) (o := 2) (off := (((0 + (a0).toNat) * 33) + 32)) (p := [0 + (a0).toNat, 1]) (c := .d (.arr 33 ((a1).length) ((a1).map eGLine))) (z := .d (eL24 x4.Txs)) (by rfl) (at_map2 eGLine (by simpa using hx5) rfl rfl) ty24 (by rfl)) rfl (.c rfl .nil) (.cons rfl .nil) ?_
 refine .v (f_lenD (n := (x4.Txs).length) (by rfl) sl24 rfl (by simp)) rfl (.c rfl .nil) .nil ?_
 refine .v (f_binI (by rfl) rfl (by rfl)) rfl (.c rfl (.c rfl .nil)) .nil ?_
 obtain ⟨x7, hx8, h⟩ := bind_some h
 obtain ⟨hx9, hx8⟩ := rd_some hx8
 refine .v (f_indexS (by rfl) sl24 hx9 (rd_map _ hx8)) rfl (.c rfl (.c rfl .nil)) .nil ?_
 refine .v (f_fieldAddrR (by rfl) fl36_4 (by decide) rfl) rfl (.c rfl .nil) .nil ?_
 refine .v (f_loadR (z := (.val (.int .u64 x7.Fee))) (by rfl) ty27) rfl (.c rfl .nil) .nil ?_
 refine .v (f_assign (by rfl)) rfl (.c rfl .nil) .nil ?_
 refine .nil (by kernel_rfl) ?_
 refine aw_ret ?_
 obtain rfl := Option.some.inj h
 refine aq_weak (s' := ⟨[(3, .d (.val (.int .u64 x7.Fee)))], [(0, .av (.ptr 1 0 [])), (1, .av (.st [.st [.slc 2 0 ((a1).length) 33]])), (2, .av (.d (.arr 33 ((a1).length) ((a1).map eGLine))))], []⟩) id hb0 (.keep rfl .nil) (.keep rfl (.keep rfl (.keep rfl .nil))) rfl (by rfl) ?_
 exact aq_fin1 (.tmp rfl (by rfl) .nil) rfl ⟨rfl, rfl⟩

/- 94: (*beadroll/shard.part).worst -/
def F94_shard_part_worst_647_s0 (n : Nat) (a0 : GTx) (a1 : (List GLine)) (y1 : (List Int)) (z0_0 : Int) (z0_1 : Int) : Option ((Int × Int) ⊕ (Int)) :=
  (if (decide (z0_1 < ((a1).length : Int))) = true then ((((((rd a1 z0_1).bind fun (x4 : GLine) => (if (!(decide (x4.From = y1))) = true then ((F120_shard_part_worst_1_e00 n z0_1 a1).bind fun (y8 : Int) => (if (decide (y8 < a0.Fee)) = true then (if (decide (z0_0 < (0 : Int))) = true then some true else ((F120_shard_part_worst_1_e00 n z0_1 a1).bind fun (y12 : Int) => ((F120_shard_part_worst_1_e00 n z0_0 a1).bind fun (y14 : Int) => some (decide (y12 < y14))))) else some false)) else some false))).bind fun (o16 : Bool) => (if o16 = true then some z0_1 else some z0_0))).bind fun (o19 : Int) => some (.inl (o19, (IntKind.i64.wrap (z0_1 + (1 : Int)))))) else some (.inr z0_0))
def F94_shard_part_worst_647 (n : Nat) (a0 : GTx) (a1 : (List GLine)) : Option (Int) :=
  ((F39_tx_From n a0).bind fun (y1 : (List Int)) => ((loopF (fun (z : Int × Int) => F94_shard_part_worst_647_s0 n a0 a1 y1 z.1 z.2) n ((-1 : Int), (0 : Int))).bind fun (o21 : Int) => some o21))
theorem F94_shard_part_worst_647_ok {n : Nat} {a0 : GTx} {a1 : (List GLine)} {r : Int} (h : F94_shard_part_worst_647 n a0 a1 = some r) :
    ACall Tryd.prog GS 94 [.ptr 0 0 [], .d (eGTx a0)] [(0, .av (.st [.st [.slc 1 0 ((a1).length) 33]])), (1, .av (.d (.arr 33 ((a1).length) ((a1).map eGLine))))] (fun r' hp' => r' = .d (.val (.int .i64 r)) ∧ hp' = [(0, .av (.st [.st [.slc 1 0 ((a1).length) 33]])), (1, .av (.d (.arr 33 ((a1).length) ((a1).map eGLine))))]) := by
 refine acall_of_body mixed Tryd.func94 rfl (by rfl) ?_
 intro C hro hgl hb0
 unfold F94_shard_part_worst_647 at h
 refine aw_rs ?_
 refine .n (f_box 2 (by rfl) (by rfl)) rfl (.c rfl .nil) rfl ?_
 refine .n (f_box 3 (by rfl) (by rfl)) rfl (.c rfl .nil) rfl ?_
 refine .a rfl ?_
 refine .z ?_
 refine .l 3 0 [] (.d (eGTx a0)) (.d (eGTx a0)) ty36 ?_
 obtain ⟨y1, hy2, h⟩ := bind_some h
 refine .v (f_callP hgl (by rfl) en39 rfl (by rfl) (by rfl) (by rfl) (F39_tx_From_ok hy2)) rfl (.c rfl .nil) .nil ?_
 refine .n (f_alloc 6 (by rfl) zr23) rfl .nil rfl ?_
 refine .a rfl ?_
 refine .s (f_store (n := 0) (o := 6) (off := 0) (p := []) (c := .d (eA22 (List.replicate 32 (0 : Int)))) (old := .d (eA22 (List.replicate 32 (0 : Int)))) (z := .d (eA22 y1)) (c' := .d (eA22 y1)) rfl rfl (by rfl) ty23 (by rfl)) rfl (.c rfl (.c rfl .nil)) (.cons rfl .nil) ?_
 refine .z ?_
 refine .v (f_makeFunc (xs := []) (ys := [.ptr 2 0 []]) (by rfl) rfl rfl (by rfl) (by rfl)) rfl (.c rfl .nil) .nil ?_
 refine .a rfl ?_
 refine .nil (aq_then ?_)
 refine aw_seq ?_
 refine aw_rs ?_
 refine .l 2 0 [] (.ptr 0 0 []) (.ptr 0 0 []) ty130 ?_
 refine .v (f_nilCheck (by rfl)) rfl (.c rfl .nil) .nil ?_
 refine .v (f_fieldAddr (n := 0) (by rfl) fl132_0 (by decide)) rfl (.c rfl .nil) .nil ?_
 refine .v (f_fieldAddr (n := 0) (by rfl) fl74_0 (by decide)) rfl (.c rfl .nil) .nil ?_
 refine .l 0 ((0 + 0) + 0) [0, 0] (.st [.st [.slc 1 0 ((a1).length) 33]]) (.slc 1 0 ((a1).length) 33) ty72 ?_
 refine .v (f_lenO (by rfl) sl72 rfl) rfl (.c rfl .nil) .nil ?_
 refine .m rfl ?_
 refine .nil (aq_then ?_)
 refine aw_block ?_
 refine aw_weak (s' := ⟨[(2, .ptr 2 0 []), (3, .ptr 3 0 []), (5, .d (.val (.int .i64 (-1 : Int)))), (6, .ptr 6 0 []), (7, .fn (.func 120) [] [.ptr 2 0 []]), (17, .d (.val (.int .i64 ((a1).length : Int)))), (18, .d (.val (.int .i64 (0 : Int))))], [(2, .av (.ptr 0 0 [])), (3, .av (.d (eGTx a0))), (6, .av (.d (eA22 y1))), (0, .av (.st [.st [.slc 1 0 ((a1).length) 33]])), (1, .av (.d (.arr 33 ((a1).length) ((a1).map eGLine))))], []⟩) id hb0 (.keep rfl (.keep rfl (.keep rfl (.keep rfl (.keep rfl (.keep rfl (.keep rfl .nil))))))) (.keep rfl (.keep rfl (.keep rfl (.keep rfl (.keep rfl .nil))))) rfl (by rfl) ?_
 obtain ⟨o21, ho22, h⟩ := bind_some h
 refine aw_loopX (σ := Int × Int) (fun z => ⟨[(2, .ptr 2 0 []), (3, .ptr 3 0 []), (5, .d (.val (.int .i64 z.1))), (6, .ptr 6 0 []), (7, .fn (.func 120) [] [.ptr 2 0 []]), (17, .d (.val (.int .i64 ((a1).length : Int)))), (18, .d (.val (.int .i64 z.2)))], [(2, .av (.ptr 0 0 [])), (3, .av (.d (eGTx a0))), (6, .av (.d (eA22 y1))), (0, .av (.st [.st [.slc 1 0 ((a1).length) 33]])), (1, .av (.d (.arr 33 ((a1).length) ((a1).map eGLine))))], []⟩) (fun _ => (.exit 0)) (fun (o21 : Int) => ⟨[(5, .d (.val (.int .i64 o21)))], [(0, .av (.st [.st [.slc 1 0 ((a1).length) 33]])), (1, .av (.d (.arr 33 ((a1).length) ((a1).map eGLine))))], []⟩) ho22 (fun _ => rfl) ?_ ?_
 ·clear h ho22
  rintro ⟨z0_0, z0_1⟩ o h
  change F94_shard_part_worst_647_s0 n a0 a1 y1 z0_0 z0_1 = some o at h
  unfold F94_shard_part_worst_647_s0 at h
  show AW _ _ _ ⟨[(2, .ptr 2 0 []), (3, .ptr 3 0 []), (5, .d (.val (.int .i64 z0_0))), (6, .ptr 6 0 []), (7, .fn (.func 120) [] [.ptr 2 0 []]), (17, .d (.val (.int .i64 ((a1).length : Int)))), (18, .d (.val (.int .i64 z0_1)))], [(2, .av (.ptr 0 0 [])), (3, .av (.d (eGTx a0))), (6, .av (.d (eA22 y1))), (0, .av (.st [.st [.slc 1 0 ((a1).length) 33]])), (1, .av (.d (.arr 33 ((a1).length) ((a1).map eGLine))))], []⟩
  refine aw_rs ?_
  refine .b rfl rfl rfl ?_
  refine .nil (aq_then ?_)
  refine aw_seq ?_
  refine aw_cond rfl (fun hc3 => ?_) (fun hc3 => ?_)
  ·replace h := ite_t hc3 h
   refine aw_skip ?_
   refine aq_then ?_
   refine aw_seq ?_
   obtain ⟨o19, ho20, h⟩ := bind_some h
   refine aw_join (.normal) ⟨[(2, .ptr 2 0 []), (3, .ptr 3 0 []), (5, .d (.val (.int .i64 o19))), (6, .ptr 6 0 []), (7, .fn (.func 120) [] [.ptr 2 0 []]), (17, .d (.val (.int .i64 ((a1).length : Int)))), (18, .d (.val (.int .i64 z0_1)))], [(2, .av (.ptr 0 0 [])), (3, .av (.d (eGTx a0))), (6, .av (.d (eA22 y1))), (0, .av (.st [.st [.slc 1 0 ((a1).length) 33]])), (1, .av (.d (.arr 33 ((a1).length) ((a1).map eGLine))))], []⟩ ?_ ?_
   ·replace h := ho20
    refine aw_block ?_
    refine aw_rs ?_
    refine .m rfl ?_
    refine .a rfl ?_
    refine .nil (aq_then ?_)
    refine aw_seq ?_
    obtain ⟨o16, ho18, h⟩ := bind_some h
    refine aw_join (.normal) ⟨[(2, .ptr 2 0 []), (3, .ptr 3 0 []), (5, .d (.val (.int .i64 z0_0))), (6, .ptr 6 0 []), (7, .fn (.func 120) [] [.ptr 2 0 []]), (8, .d (.val (.int .i64 z0_1))), (17, .d (.val (.int .i64 ((a1).length : Int)))), (18, .d (.val (.int .i64 z0_1))), (52, .d (.val (.bool o16)))], [(2, .av (.ptr 0 0 [])), (3, .av (.d (eGTx a0))), (6, .av (.d (eA22 y1))), (0, .av (.st [.st [.slc 1 0 ((a1).length) 33]])), (1, .av (.d (.arr 33 ((a1).length) ((a1).map eGLine))))], []⟩ ?_ ?_
    ·replace h := ho18
     refine aw_rd ?_
     refine .v (f_load (n := 0) (o := 2) (off := 0) (p := []) (c := .ptr 0 0 []) (z := .ptr 0 0 []) (by rfl) rfl ty130 (by rfl)) rfl (.c rfl .nil) (.cons rfl .nil) ?_
     refine .v (f_nilCheck (by rfl)) rfl (.c rfl .nil) .nil ?_
     refine .v (f_fieldAddr (n := 0) (by rfl) fl132_0 (by decide)) rfl (.c rfl .nil) .nil ?_
     refine .v (f_fieldAddr (n := 0) (by rfl) fl74_0 (by decide)) rfl (.c rfl .nil) .nil ?_
     refine .v (f_load (n := 0) (o := 0) (off := ((0 + 0) + 0)) (p := [0, 0]) (c := .st [.st [.slc 1 0 ((a1).length) 33]]) (z := .slc 1 0 ((a1).length) 33) (by rfl) rfl ty72 (by rfl)) rfl (.c rfl .nil) (.cons rfl .nil) ?_
     refine .v (f_move (by rfl)) rfl (.c rfl .nil) .nil ?_
     obtain ⟨x4, hx5, h⟩ := bind_some h
     obtain ⟨hx6, hx5⟩ := rd_some hx5
     refine .v (f_indexSW (by rfl) sl72 hx6 (rd_map _ hx5)) rfl (.c rfl (.c rfl .nil)) (.cons rfl .nil) ?_
     refine .v (f_fieldAddr (n := 0) (by rfl) fl26_0 (by decide)) rfl (.c rfl .nil) .nil ?_
     refine .v (f_load (n := 0) (o := 1) (off := (((0 + (z0_1).toNat) * 33) + 0)) (p := [0 + (z0_1).toNat, 0]) (c := .d (.arr 33 ((a1).length) ((a1).map eGLine))) (z := .d (eA22 x4.From)) (by rfl) (at_map2 eGLine (by simpa using hx5) rfl rfl) ty23 (by rfl)) rfl (.c rfl .nil) (.cons rfl .nil) ?_
     refine .v (f_load (n := 0) (o := 6) (off := 0) (p := []) (c := .d (eA22 y1)) (z := .d (eA22 y1)) (by rfl) rfl ty23 (by rfl)) rfl (.c rfl .nil) (.cons rfl .nil) ?_
     refine .v (f_neqT (by rfl) (fit23 _) (fit23 _) (by rfl) (by rfl) gd23 (eq_eA22 _ _)) rfl (.c rfl (.c rfl .nil)) .nil ?_
     refine .v (f_move (by rfl)) rfl (.c rfl .nil) .nil ?_
     rcases Bool.eq_false_or_eq_true (!(decide (x4.From = y1))) with hc7 | hc7
     ·replace h := ite_t hc7 h
      refine .gv (f_move (by rfl)) rfl rfl rfl hc7 (.c rfl .nil) .nil ?_
      refine .gv (f_move (by rfl)) rfl rfl rfl hc7 (.c rfl .nil) .nil ?_
      obtain ⟨y8, hy9, h⟩ := bind_some h
      refine .gw (f_callG0 (xs := [.d (.val (.int .i64 z0_1))]) (r := .d (.val (.int .u64 y8))) (fun i => bif Nat.beq i 2 then 1 else (bif Nat.beq i 1 then 0 else (bif Nat.beq i 0 then 2 else i))) [] hgl (by rfl) (cal_v (first := []) (caps := [.ptr 2 0 []]) en120) rfl (by rfl) (by rfl) (by rfl) (by rfl) (.cons (.same _) (.cons (.same _) .nil)) rfl rfl (F120_shard_part_worst_1_e00_ok hy9)) rfl rfl rfl hc7 (.c rfl (.c rfl .nil)) (.cons rfl (.cons rfl (.cons rfl .nil))) .nil ?_
      refine .gv (f_fieldAddr (n := 66) (by rfl) fl36_4 (by decide)) rfl rfl rfl hc7 (.c rfl .nil) .nil ?_
      refine .gv (f_load (n := 0) (o := 3) (off := (0 + 66)) (p := [4]) (c := .d (eGTx a0)) (z := .d (.val (.int .u64 a0.Fee))) (by rfl) rfl ty27 (by rfl)) rfl rfl rfl hc7 (.c rfl .nil) (.cons rfl .nil) ?_
      refine .gv (f_binI (by rfl) rfl (by rfl)) rfl rfl rfl hc7 (.c rfl (.c rfl .nil)) .nil ?_
      refine .v (f_pick_true (by rfl) hc7) rfl (.c rfl (.c rfl .nil)) .nil ?_
      refine .v (f_move (by rfl)) rfl (.c rfl .nil) .nil ?_
      rcases Bool.eq_false_or_eq_true (decide (y8 < a0.Fee)) with hc10 | hc10
      ·replace h := ite_t hc10 h
       refine .gv (f_move (by rfl)) rfl rfl rfl hc10 (.c rfl .nil) .nil ?_
       refine .gv (f_binI (by rfl) rfl (by rfl)) rfl rfl rfl hc10 (.c rfl (.c rfl .nil)) .nil ?_
       refine .gv (f_move (by rfl)) rfl rfl rfl hc10 (.c rfl .nil) .nil ?_
       rcases Bool.eq_false_or_eq_true (decide (z0_0 < (0 : Int))) with hc11 | hc11
       ·replace h := ite_t hc11 h
        refine .off rfl rfl rfl hc11 rfl (by rfl) ?_
        refine .off rfl rfl rfl hc11 rfl (by rfl) ?_
        refine .off rfl rfl rfl hc11 rfl (by rfl) ?_
        refine .off rfl rfl rfl hc11 rfl (by rfl) ?_
        refine .off rfl rfl rfl hc11 rfl (by rfl) ?_
        refine .off rfl rfl rfl hc11 rfl (by rfl) ?_
        refine .off rfl rfl rfl hc11 rfl (by rfl) ?_
        refine .gv (f_pick_true (by rfl) hc11) rfl rfl rfl hc10 (.c rfl (.c rfl .nil)) .nil ?_
        refine .v (f_pick_true (by rfl) hc10) rfl (.c rfl (.c rfl .nil)) .nil ?_
        refine .nil (by kernel_rfl) ?_
        obtain rfl := Option.some.inj h
        refine aq_weak (s' := ⟨[(2, .ptr 2 0 []), (3, .ptr 3 0 []), (5, .d (.val (.int .i64 z0_0))), (6, .ptr 6 0 []), (7, .fn (.func 120) [] [.ptr 2 0 []]), (8, .d (.val (.int .i64 z0_1))), (17, .d (.val (.int .i64 ((a1).length : Int)))), (18, .d (.val (.int .i64 z0_1))), (52, .d (.val (.bool true)))], [(2, .av (.ptr 0 0 [])), (3, .av (.d (eGTx a0))), (6, .av (.d (eA22 y1))), (0, .av (.st [.st [.slc 1 0 ((a1).length) 33]])), (1, .av (.d (.arr 33 ((a1).length) ((a1).map eGLine))))], []⟩) id hb0 (.keep rfl (.keep rfl (.keep rfl (.keep rfl (.keep rfl (.keep rfl (.keep rfl (.keep rfl (.keep rfl .nil))))))))) (.keep rfl (.keep rfl (.keep rfl (.keep rfl (.keep rfl .nil))))) rfl (by rfl) ?_
        exact jq
       replace h := ite_f hc11 h
       refine .gv (f_move (by rfl)) rfl rfl rfl hc11 (.c rfl .nil) .nil ?_
       refine .gv (f_move (by rfl)) rfl rfl rfl hc11 (.c rfl .nil) .nil ?_
       obtain ⟨y12, hy13, h⟩ := bind_some h
       refine .gw (f_callG0 (xs := [.d (.val (.int .i64 z0_1))]) (r := .d (.val (.int .u64 y12))) (fun i => bif Nat.beq i 2 then 1 else (bif Nat.beq i 1 then 0 else (bif Nat.beq i 0 then 2 else i))) [] hgl (by rfl) (cal_v (first := []) (caps := [.ptr 2 0 []]) en120) rfl (by rfl) (by rfl) (by rfl) (by rfl) (.cons (.same _) (.cons (.same _) .nil)) rfl rfl (F120_shard_part_worst_1_e00_ok hy13)) rfl rfl rfl hc11 (.c rfl (.c rfl .nil)) (.cons rfl (.cons rfl (.cons rfl .nil))) .nil ?_
       refine .gv (f_move (by rfl)) rfl rfl rfl hc11 (.c rfl .nil) .nil ?_
       refine .gv (f_move (by rfl)) rfl rfl rfl hc11 (.c rfl .nil) .nil ?_
       obtain ⟨y14, hy15, h⟩ := bind_some h
       refine .gw (f_callG0 (xs := [.d (.val (.int .i64 z0_0))]) (r := .d (.val (.int .u64 y14))) (fun i => bif Nat.beq i 2 then 1 else (bif Nat.beq i 1 then 0 else (bif Nat.beq i 0 then 2 else i))) [] hgl (by rfl) (cal_v (first := []) (caps := [.ptr 2 0 []]) en120) rfl (by rfl) (by rfl) (by rfl) (by rfl) (.cons (.same _) (.cons (.same _) .nil)) rfl rfl (F120_shard_part_worst_1_e00_ok hy15)) rfl rfl rfl hc11 (.c rfl (.c rfl .nil)) (.cons rfl (.cons rfl (.cons rfl .nil))) .nil ?_
       refine .gv (f_binI (by rfl) rfl (by rfl)) rfl rfl rfl hc11 (.c rfl (.c rfl .nil)) .nil ?_
       refine .gv (f_pick_false (by rfl) hc11) rfl rfl rfl hc10 (.c rfl (.c rfl .nil)) .nil ?_
       refine .v (f_pick_true (by rfl) hc10) rfl (.c rfl (.c rfl .nil)) .nil ?_
       refine .nil (by kernel_rfl) ?_
       obtain rfl := Option.some.inj h
       refine aq_weak (s' := ⟨[(2, .ptr 2 0 []), (3, .ptr 3 0 []), (5, .d (.val (.int .i64 z0_0))), (6, .ptr 6 0 []), (7, .fn (.func 120) [] [.ptr 2 0 []]), (8, .d (.val (.int .i64 z0_1))), (17, .d (.val (.int .i64 ((a1).length : Int)))), (18, .d (.val (.int .i64 z0_1))), (52, .d (.val (.bool (decide (y12 < y14)))))], [(2, .av (.ptr 0 0 [])), (3, .av (.d (eGTx a0))), (6, .av (.d (eA22 y1))), (0, .av (.st [.st [.slc 1 0 ((a1).length) 33]])), (1, .av (.d (.arr 33 ((a1).length) ((a1).map eGLine))))], []⟩) id hb0 (.keep rfl (.keep rfl (.keep rfl (.keep rfl (.keep rfl (.keep rfl (.keep rfl (.keep rfl (.keep rfl .nil))))))))) (.keep rfl (.keep rfl (.keep rfl (.keep rfl (.keep rfl .nil))))) rfl (by rfl) ?_
       exact jq
      replace h := ite_f hc10 h
      refine .off rfl rfl rfl hc10 rfl (by rfl) ?_
      refine .off rfl rfl rfl hc10 rfl (by rfl) ?_
      refine .off rfl rfl rfl hc10 rfl (by rfl) ?_
      refine .offu rfl rfl rfl rfl (by rfl) ?_
      refine .offu rfl rfl rfl rfl (by rfl) ?_
      refine .offu rfl rfl rfl rfl (by rfl) ?_
      refine .offu rfl rfl rfl rfl (by rfl) ?_
      refine .offu rfl rfl rfl rfl (by rfl) ?_
      refine .offu rfl rfl rfl rfl (by rfl) ?_
      refine .offu rfl rfl rfl rfl (by rfl) ?_
      refine .off rfl rfl rfl hc10 rfl (by rfl) ?_
      refine .v (f_pick_false (by rfl) hc10) rfl (.c rfl (.c rfl .nil)) .nil ?_
      refine .nil (by kernel_rfl) ?_
      obtain rfl := Option.some.inj h
      refine aq_weak (s' := ⟨[(2, .ptr 2 0 []), (3, .ptr 3 0 []), (5, .d (.val (.int .i64 z0_0))), (6, .ptr 6 0 []), (7, .fn (.func 120) [] [.ptr 2 0 []]), (8, .d (.val (.int .i64 z0_1))), (17, .d (.val (.int .i64 ((a1).length : Int)))), (18, .d (.val (.int .i64 z0_1))), (52, .d (.val (.bool false)))], [(2, .av (.ptr 0 0 [])), (3, .av (.d (eGTx a0))), (6, .av (.d (eA22 y1))), (0, .av (.st [.st [.slc 1 0 ((a1).length) 33]])), (1, .av (.d (.arr 33 ((a1).length) ((a1).map eGLine))))], []⟩) id hb0 (.keep rfl (.keep rfl (.keep rfl (.keep rfl (.keep rfl (.keep rfl (.keep rfl (.keep rfl (.keep rfl .nil))))))))) (.keep rfl (.keep rfl (.keep rfl (.keep rfl (.keep rfl .nil))))) rfl (by rfl) ?_
      exact jq
     replace h := ite_f hc7 h
     refine .off rfl rfl rfl hc7 rfl (by rfl) ?_
     refine .off rfl rfl rfl hc7 rfl (by rfl) ?_
     refine .off rfl rfl rfl hc7 rfl (by rfl) ?_
     refine .off rfl rfl rfl hc7 rfl (by rfl) ?_
     refine .off rfl rfl rfl hc7 rfl (by rfl) ?_
     refine .off rfl rfl rfl hc7 rfl (by rfl) ?_
     refine .v (f_pick_false (by rfl) hc7) rfl (.c rfl (.c rfl .nil)) .nil ?_
     refine .v (f_move (by rfl)) rfl (.c rfl .nil) .nil ?_
     refine .off rfl rfl rfl rfl rfl (by rfl) ?_
     refine .off rfl rfl rfl rfl rfl (by rfl) ?_
     refine .off rfl rfl rfl rfl rfl (by rfl) ?_
     refine .offu rfl rfl rfl rfl (by rfl) ?_
     refine .offu rfl rfl rfl rfl (by rfl) ?_
     refine .offu rfl rfl rfl rfl (by rfl) ?_
     refine .offu rfl rfl rfl rfl (by rfl) ?_
     refine .offu rfl rfl rfl rfl (by rfl) ?_
     refine .offu rfl rfl rfl rfl (by rfl) ?_
     refine .offu rfl rfl rfl rfl (by rfl) ?_
     refine .off rfl rfl rfl rfl rfl (by rfl) ?_
     refine .v (f_pick_false (by rfl) rfl) rfl (.c rfl (.c rfl .nil)) .nil ?_
     refine .nil (by kernel_rfl) ?_
     obtain rfl := Option.some.inj h
     refine aq_weak (s' := ⟨[(2, .ptr 2 0 []), (3, .ptr 3 0 []), (5, .d (.val (.int .i64 z0_0))), (6, .ptr 6 0 []), (7, .fn (.func 120) [] [.ptr 2 0 []]), (8, .d (.val (.int .i64 z0_1))), (17, .d (.val (.int .i64 ((a1).length : Int)))), (18, .d (.val (.int .i64 z0_1))), (52, .d (.val (.bool false)))], [(2, .av (.ptr 0 0 [])), (3, .av (.d (eGTx a0))), (6, .av (.d (eA22 y1))), (0, .av (.st [.st [.slc 1 0 ((a1).length) 33]])), (1, .av (.d (.arr 33 ((a1).length) ((a1).map eGLine))))], []⟩) id hb0 (.keep rfl (.keep rfl (.keep rfl (.keep rfl (.keep rfl (.keep rfl (.keep rfl (.keep rfl (.keep rfl .nil))))))))) (.keep rfl (.keep rfl (.keep rfl (.keep rfl (.keep rfl .nil))))) rfl (by rfl) ?_
     exact jq
    refine aq_then ?_
    refine aw_cond rfl (fun hc17 => ?_) (fun hc17 => ?_)
    ·replace h := ite_t hc17 h
     refine aw_r ?_
     refine .m rfl ?_
     refine .a rfl ?_
     refine .nil ?_
     refine aq_block ?_
     obtain rfl := Option.some.inj h
     refine aq_weak (s' := ⟨[(2, .ptr 2 0 []), (3, .ptr 3 0 []), (5, .d (.val (.int .i64 z0_1))), (6, .ptr 6 0 []), (7, .fn (.func 120) [] [.ptr 2 0 []]), (17, .d (.val (.int .i64 ((a1).length : Int)))), (18, .d (.val (.int .i64 z0_1)))], [(2, .av (.ptr 0 0 [])), (3, .av (.d (eGTx a0))), (6, .av (.d (eA22 y1))), (0, .av (.st [.st [.slc 1 0 ((a1).length) 33]])), (1, .av (.d (.arr 33 ((a1).length) ((a1).map eGLine))))], []⟩) id hb0 (.keep rfl (.keep rfl (.keep rfl (.keep rfl (.keep rfl (.keep rfl (.keep rfl .nil))))))) (.keep rfl (.keep rfl (.keep rfl (.keep rfl (.keep rfl .nil))))) rfl (by rfl) ?_
     exact jq
    replace h := ite_f hc17 h
    refine aw_skip ?_
    refine aq_block ?_
    obtain rfl := Option.some.inj h
    refine aq_weak (s' := ⟨[(2, .ptr 2 0 []), (3, .ptr 3 0 []), (5, .d (.val (.int .i64 z0_0))), (6, .ptr 6 0 []), (7, .fn (.func 120) [] [.ptr 2 0 []]), (17, .d (.val (.int .i64 ((a1).length : Int)))), (18, .d (.val (.int .i64 z0_1)))], [(2, .av (.ptr 0 0 [])), (3, .av (.d (eGTx a0))), (6, .av (.d (eA22 y1))), (0, .av (.st [.st [.slc 1 0 ((a1).length) 33]])), (1, .av (.d (.arr 33 ((a1).length) ((a1).map eGLine))))], []⟩) id hb0 (.keep rfl (.keep rfl (.keep rfl (.keep rfl (.keep rfl (.keep rfl (.keep rfl .nil))))))) (.keep rfl (.keep rfl (.keep rfl (.keep rfl (.keep rfl .nil))))) rfl (by rfl) ?_
    exact jq
   refine aq_then ?_
   refine aw_r ?_
   refine .b rfl rfl rfl ?_
   refine .m rfl ?_
   refine .nil ?_
   obtain rfl := Option.some.inj h
   refine aq_weak (s' := ⟨[(2, .ptr 2 0 []), (3, .ptr 3 0 []), (5, .d (.val (.int .i64 o19))), (6, .ptr 6 0 []), (7, .fn (.func 120) [] [.ptr 2 0 []]), (17, .d (.val (.int .i64 ((a1).length : Int)))), (18, .d (.val (.int .i64 (IntKind.i64.wrap (z0_1 + (1 : Int))))))], [(2, .av (.ptr 0 0 [])), (3, .av (.d (eGTx a0))), (6, .av (.d (eA22 y1))), (0, .av (.st [.st [.slc 1 0 ((a1).length) 33]])), (1, .av (.d (.arr 33 ((a1).length) ((a1).map eGLine))))], []⟩) id hb0 (.keep rfl (.keep rfl (.keep rfl (.keep rfl (.keep rfl (.keep rfl (.keep rfl .nil))))))) (.keep rfl (.keep rfl (.keep rfl (.keep rfl (.keep rfl .nil))))) rfl (by rfl) ?_
   exact jq
  replace h := ite_f hc3 h
  refine aw_exit ?_
  refine aq_then_exit ?_
  obtain rfl := Option.some.inj h
  refine aq_weak (s' := ⟨[(5, .d (.val (.int .i64 z0_0)))], [(0, .av (.st [.st [.slc 1 0 ((a1).length) 33]])), (1, .av (.d (.arr 33 ((a1).length) ((a1).map eGLine))))], []⟩) id hb0 (.keep rfl .nil) (.keep rfl (.keep rfl .nil)) rfl (by rfl) ?_
  exact jq
 refine aq_block_exit ?_
 refine aq_then ?_
 refine aw_rs ?_
 refine .m rfl ?_
 refine .a rfl ?_
 refine .nil (aq_then ?_)
 refine aw_ret ?_
 obtain rfl := Option.some.inj h
 refine aq_weak (s' := ⟨[(4, .d (.val (.int .i64 o21)))], [(0, .av (.st [.st [.slc 1 0 ((a1).length) 33]])), (1, .av (.d (.arr 33 ((a1).length) ((a1).map eGLine))))], []⟩) id hb0 (.keep rfl .nil) (.keep rfl (.keep rfl .nil)) rfl (by rfl) ?_
 exact aq_fin1 (.tmp rfl (by rfl) .nil) rfl ⟨rfl, rfl⟩

/- 95: (*beadroll/shard.part).set -/
def F95_shard_part_set_ddb (n : Nat) (a0 : GLine) (a1 : (List GLine)) : Option (List GLine) :=
  ((F119_shard_part_find_363 n a0.From a1).bind fun (y1 : Int × Bool) => (((if y1.2 = true then some (((a0.Txs).length : Int) == (0 : Int)) else some false)).bind fun (o4 : Bool) => (if o4 = true then ((F121_Delete n y1.1 (IntKind.i64.wrap (y1.1 + (1 : Int))) a1).bind fun (y6 : List GLine) => some y6) else (if y1.2 = true then ((rd a1 y1.1).bind fun (x9 : GLine) => some (a1.set (0 + (y1.1).toNat) a0)) else (if (decide (((a0.Txs).length : Int) > (0 : Int))) = true then ((F122_Insert n y1.1 a1 ([a0] : List GLine)).bind fun (y13 : List GLine) => some y13) else some a1)))))
theorem F95_shard_part_set_ddb_ok {n : Nat} {a0 : GLine} {a1 : (List GLine)} {r : List GLine} (h : F95_shard_part_set_ddb n a0 a1 = some r) :
    ACall Tryd.prog GS 95 [.ptr 0 0 [], .d (eGLine a0)] [(0, .av (.st [.st [.slc 1 0 ((a1).length) 33]])), (1, .av (.d (.arr 33 ((a1).length) ((a1).map eGLine))))] (fun r' hp' => r' = .res [] ∧ hp' = [(0, .av (.st [.st [.slc 1078 0 ((r).length) 33]])), (1, .dead), (1078, .av (.d (.arr 33 ((r).length) ((r).map eGLine))))]) := by
 refine acall_of_body mixed Tryd.func95 rfl (by rfl) ?_
 intro C hro hgl hb0
 unfold F95_shard_part_set_ddb at h
 refine aw_rs ?_
 refine .n (f_box 3 (by rfl) (by rfl)) rfl (.c rfl .nil) rfl ?_
 refine .z ?_
 refine .m rfl ?_
 refine .v (f_makeFunc (xs := [.ptr 0 0 []]) (ys := []) (by rfl) rfl rfl (by rfl) (by rfl)) rfl (.c rfl .nil) .nil ?_
 refine .a rfl ?_
 refine .z ?_
 refine .m rfl ?_
 refine .v (f_fieldAddr (n := 0) (by rfl) fl26_0 (by decide)) rfl (.c rfl .nil) .nil ?_
 refine .l 3 (0 + 0) [0] (.d (eGLine a0)) (.d (eA22 a0.From)) ty23 ?_
 obtain ⟨y1, hy2, h⟩ := bind_some h
 refine .w (f_callG0 (xs := [.d (eA22 a0.From)]) (r := .res [.d (.val (.int .i64 y1.1)), .d (.val (.bool y1.2))]) (fun i => i) [] hgl (by rfl) (cal_v (first := [.ptr 0 0 []]) (caps := []) en119) rfl (by rfl) (by rfl) (by rfl) (by rfl) (.cons (.same _) (.cons (.same _) .nil)) rfl rfl (F119_shard_part_find_363_ok hy2)) rfl (.c rfl (.c rfl .nil)) (.cons rfl (.cons rfl .nil)) .nil ?_
 refine .m rfl ?_
 refine .v (f_extract (by rfl) rfl) rfl (.c rfl .nil) .nil ?_
 refine .v (f_extract (by rfl) rfl) rfl (.c rfl .nil) .nil ?_
 refine .a rfl ?_
 refine .a rfl ?_
 refine .nil (aq_then ?_)
 refine aw_block ?_
 refine aw_seq ?_
 obtain ⟨o4, ho15, h⟩ := bind_some h
 refine aw_join (.normal) ⟨[(0, .ptr 0 0 []), (3, .ptr 3 0 []), (5, .d (.val (.int .i64 y1.1))), (6, .d (.val (.bool y1.2))), (16, .d (.val (.bool o4)))], [(0, .av (.st [.st [.slc 1 0 ((a1).length) 33]])), (3, .av (.d (eGLine a0))), (1, .av (.d (.arr 33 ((a1).length) ((a1).map eGLine))))], []⟩ ?_ ?_
 ·replace h := ho15
  refine aw_r ?_
  refine .m rfl ?_
  refine .m rfl ?_
  rcases Bool.eq_false_or_eq_true y1.2 with hc3 | hc3
  ·replace h := ite_t hc3 h
   refine .gv (f_fieldAddr (n := 32) (by rfl) fl26_1 (by decide)) rfl rfl rfl hc3 (.c rfl .nil) .nil ?_
   refine .gv (f_load (n := 0) (o := 3) (off := (0 + 32)) (p := [1]) (c := .d (eGLine a0)) (z := .d (eL24 a0.Txs)) (by rfl) rfl ty24 (by rfl)) rfl rfl rfl hc3 (.c rfl .nil) (.cons rfl .nil) ?_
   refine .gv (f_lenD (n := (a0.Txs).length) (by rfl) sl24 rfl (by simp)) rfl rfl rfl hc3 (.c rfl .nil) .nil ?_
   refine .gv (f_binI (by rfl) rfl (by rfl)) rfl rfl rfl hc3 (.c rfl (.c rfl .nil)) .nil ?_
   refine .v (f_pick_true (by rfl) hc3) rfl (.c rfl (.c rfl .nil)) .nil ?_
   refine .a rfl ?_
   refine .nil ?_
   obtain rfl := Option.some.inj h
   refine aq_weak (s' := ⟨[(0, .ptr 0 0 []), (3, .ptr 3 0 []), (5, .d (.val (.int .i64 y1.1))), (6, .d (.val (.bool y1.2))), (16, .d (.val (.bool (((a0.Txs).length : Int) == (0 : Int)))))], [(0, .av (.st [.st [.slc 1 0 ((a1).length) 33]])), (3, .av (.d (eGLine a0))), (1, .av (.d (.arr 33 ((a1).length) ((a1).map eGLine))))], []⟩) id hb0 (.keep rfl (.keep rfl (.keep rfl (.keep rfl (.keep rfl .nil))))) (.keep rfl (.keep rfl (.keep rfl .nil))) rfl (by rfl) ?_
   exact jq
  replace h := ite_f hc3 h
  refine .off rfl rfl rfl hc3 rfl (by rfl) ?_
  refine .off rfl rfl rfl hc3 rfl (by rfl) ?_
  refine .off rfl rfl rfl hc3 rfl (by rfl) ?_
  refine .off rfl rfl rfl hc3 rfl (by rfl) ?_
  refine .v (f_pick_false (by rfl) hc3) rfl (.c rfl (.c rfl .nil)) .nil ?_
  refine .a rfl ?_
  refine .nil ?_
  obtain rfl := Option.some.inj h
  refine aq_weak (s' := ⟨[(0, .ptr 0 0 []), (3, .ptr 3 0 []), (5, .d (.val (.int .i64 y1.1))), (6, .d (.val (.bool y1.2))), (16, .d (.val (.bool false)))], [(0, .av (.st [.st [.slc 1 0 ((a1).length) 33]])), (3, .av (.d (eGLine a0))), (1, .av (.d (.arr 33 ((a1).length) ((a1).map eGLine))))], []⟩) id hb0 (.keep rfl (.keep rfl (.keep rfl (.keep rfl (.keep rfl .nil))))) (.keep rfl (.keep rfl (.keep rfl .nil))) rfl (by rfl) ?_
  exact jq
 refine aq_then ?_
 refine aw_cond rfl (fun hc5 => ?_) (fun hc5 => ?_)
 ·replace h := ite_t hc5 h
  refine aw_r ?_
  refine .m rfl ?_
  refine .m rfl ?_
  refine .v (f_nilCheck (by rfl)) rfl (.c rfl .nil) .nil ?_
  refine .v (f_fieldAddr (n := 0) (by rfl) fl132_0 (by decide)) rfl (.c rfl .nil) .nil ?_
  refine .v (f_fieldAddr (n := 0) (by rfl) fl74_0 (by decide)) rfl (.c rfl .nil) .nil ?_
  refine .l 0 ((0 + 0) + 0) [0, 0] (.st [.st [.slc 1 0 ((a1).length) 33]]) (.slc 1 0 ((a1).length) 33) ty72 ?_
  refine .m rfl ?_
  refine .m rfl ?_
  refine .b rfl rfl rfl ?_
  obtain ⟨y6, hy7, h⟩ := bind_some h
  refine .w (f_callG (xs := [.slc 1 0 ((a1).length) 33, .d (.val (.int .i64 y1.1)), .d (.val (.int .i64 (IntKind.i64.wrap (y1.1 + (1 : Int)))))]) (r := .slc 1078 0 ((y6).length) 33) (hw := [(1078, .av (.d (.arr 33 ((y6).length) ((y6).map eGLine)))), (1, .dead)]) (fun i => bif Nat.beq i 1 then 1078 else (bif Nat.beq i 0 then 1 else i)) [] hgl (by rfl) (cal_f en121) rfl (by rfl) (by rfl) (by rfl) (by rfl) (.cons (.same _) (.cons (.same _) (.cons (.same _) .nil))) rfl rfl rfl rfl (F121_Delete_ok hy7)) rfl (.c rfl (.c rfl (.c rfl .nil))) (.cons rfl .nil) (.cons rfl .nil) ?_
  refine .v (f_nilCheck (by rfl)) rfl (.c rfl .nil) .nil ?_
  refine .v (f_fieldAddr (n := 0) (by rfl) fl132_0 (by decide)) rfl (.c rfl .nil) .nil ?_
  refine .v (f_fieldAddr (n := 0) (by rfl) fl74_0 (by decide)) rfl (.c rfl .nil) .nil ?_
  refine .s (f_store (n := 0) (o := 0) (off := ((0 + 0) + 0)) (p := [0, 0]) (c := .st [.st [.slc 1 0 ((a1).length) 33]]) (old := .slc 1 0 ((a1).length) 33) (z := .slc 1078 0 ((y6).length) 33) (c' := .st [.st [.slc 1078 0 ((y6).length) 33]]) rfl rfl (by rfl) ty72 (by rfl)) rfl (.c rfl (.c rfl .nil)) (.cons rfl .nil) ?_
  refine .nil ?_
  refine aq_block ?_
  obtain rfl := Option.some.inj h
  refine aq_weak (s' := ⟨[], [(0, .av (.st [.st [.slc 1078 0 ((y6).length) 33]])), (1, .dead), (1078, .av (.d (.arr 33 ((y6).length) ((y6).map eGLine))))], []⟩) id hb0 .nil (.keep rfl (.keepH rfl (.keep rfl .nil))) rfl (by rfl) ?_
  exact aq_fin0 .nil rfl ⟨rfl, rfl⟩
 replace h := ite_f hc5 h
 refine aw_rs ?_
 refine .m rfl ?_
 refine .a rfl ?_
 refine .nil (aq_then ?_)
 refine aw_cond rfl (fun hc8 => ?_) (fun hc8 => ?_)
 ·replace h := ite_t hc8 h
  refine aw_rd ?_
  refine .v (f_move (by rfl)) rfl (.c rfl .nil) .nil ?_
  refine .v (f_nilCheck (by rfl)) rfl (.c rfl .nil) .nil ?_
  refine .v (f_fieldAddr (n := 0) (by rfl) fl132_0 (by decide)) rfl (.c rfl .nil) .nil ?_
  refine .v (f_fieldAddr (n := 0) (by rfl) fl74_0 (by decide)) rfl (.c rfl .nil) .nil ?_
  refine .v (f_load (n := 0) (o := 0) (off := ((0 + 0) + 0)) (p := [0, 0]) (c := .st [.st [.slc 1 0 ((a1).length) 33]]) (z := .slc 1 0 ((a1).length) 33) (by rfl) rfl ty72 (by rfl)) rfl (.c rfl .nil) (.cons rfl .nil) ?_
  refine .v (f_move (by rfl)) rfl (.c rfl .nil) .nil ?_
  refine .v (f_load (n := 0) (o := 3) (off := 0) (p := []) (c := .d (eGLine a0)) (z := .d (eGLine a0)) (by rfl) rfl ty26 (by rfl)) rfl (.c rfl .nil) (.cons rfl .nil) ?_
  obtain ⟨x9, hx10, h⟩ := bind_some h
  obtain ⟨hx11, hx10⟩ := rd_some hx10
  refine .v (f_indexSW (by rfl) sl72 hx11 (rd_map _ hx10)) rfl (.c rfl (.c rfl .nil)) (.cons rfl .nil) ?_
  refine .s (f_store (n := 0) (o := 1) (off := ((0 + (y1.1).toNat) * 33)) (p := [0 + (y1.1).toNat]) (c := .d (.arr 33 ((a1).length) ((a1).map eGLine))) (old := .d (eGLine x9)) (z := .d (eGLine a0)) (c' := .d (.arr 33 ((a1).length) (((a1.set (0 + (y1.1).toNat) a0)).map eGLine))) (at_map _ (by simpa using hx10) rfl) (put_map _ (by simpa using hx10)) (by rfl) ty26 (by rfl)) rfl (.c rfl (.c rfl .nil)) (.cons rfl .nil) ?_
  refine .nil (by kernel_rfl) ?_
  refine aq_block ?_
  obtain rfl := Option.some.inj h
  refine aq_moveH 0 1 1081 rfl rfl rfl rfl rfl ?_
  refine aq_weak (s' := ⟨[], [(0, .av (.st [.st [.slc 1078 0 (((a1.set (0 + (y1.1).toNat) a0)).length) 33]])), (1, .dead), (1078, .av (.d (.arr 33 (((a1.set (0 + (y1.1).toNat) a0)).length) (((a1.set (0 + (y1.1).toNat) a0)).map eGLine))))], []⟩) (fun i => (bif Nat.beq i 1078 then 1081 else i)) hb0 .nil (.cons (by simp only [List.length_set]; rfl) (.cons rfl (.cons (by simp only [List.length_set]; rfl) .nil))) rfl (by rfl) ?_
  exact aq_fin0 .nil rfl ⟨rfl, rfl⟩
 replace h := ite_f hc8 h
 refine aw_rs ?_
 refine .v (f_fieldAddr (n := 32) (by rfl) fl26_1 (by decide)) rfl (.c rfl .nil) .nil ?_
 refine .l 3 (0 + 32) [1] (.d (eGLine a0)) (.d (eL24 a0.Txs)) ty24 ?_
 refine .v (f_lenD (n := (a0.Txs).length) (by rfl) sl24 rfl (by simp)) rfl (.c rfl .nil) .nil ?_
 refine .b rfl rfl rfl ?_
 refine .a rfl ?_
 refine .nil (aq_then ?_)
 refine aw_cond rfl (fun hc12 => ?_) (fun hc12 => ?_)
 ·replace h := ite_t hc12 h
  refine aw_rd ?_
  refine .v (f_move (by rfl)) rfl (.c rfl .nil) .nil ?_
  refine .v (f_move (by rfl)) rfl (.c rfl .nil) .nil ?_
  refine .v (f_nilCheck (by rfl)) rfl (.c rfl .nil) .nil ?_
  refine .v (f_fieldAddr (n := 0) (by rfl) fl132_0 (by decide)) rfl (.c rfl .nil) .nil ?_
  refine .v (f_fieldAddr (n := 0) (by rfl) fl74_0 (by decide)) rfl (.c rfl .nil) .nil ?_
  refine .v (f_load (n := 0) (o := 0) (off := ((0 + 0) + 0)) (p := [0, 0]) (c := .st [.st [.slc 1 0 ((a1).length) 33]]) (z := .slc 1 0 ((a1).length) 33) (by rfl) rfl ty72 (by rfl)) rfl (.c rfl .nil) (.cons rfl .nil) ?_
  refine .v (f_move (by rfl)) rfl (.c rfl .nil) .nil ?_
  refine .v (f_load (n := 0) (o := 3) (off := 0) (p := []) (c := .d (eGLine a0)) (z := .d (eGLine a0)) (by rfl) rfl ty26 (by rfl)) rfl (.c rfl .nil) (.cons rfl .nil) ?_
  refine .n (f_buildS (xs := [(0, .d (eGLine a0))]) (z := (.st [(eA22 (List.replicate 32 (0 : Int))), (.val (.slice none 0 0))])) (zs := (([a0] : List GLine)).map eGLine) 1079 (by rfl) el72 zel72 (by rfl) (by decide) (by decide) rfl (by rfl) ⟨_, _, _, rfl, pl72_0, rfl, rfl, trivial⟩ (by rfl)) rfl (.c rfl .nil) rfl ?_
  obtain ⟨y13, hy14, h⟩ := bind_some h
  refine .w (f_callG (xs := [.slc 1 0 ((a1).length) 33, .d (.val (.int .i64 y1.1)), .slc 1079 0 ((([a0] : List GLine)).length) 33]) (r := .slc 1080 0 ((y13).length) 33) (hw := [(1080, .av (.d (.arr 33 ((y13).length) ((y13).map eGLine)))), (1, .dead), (1079, .av (.d (.arr 33 ((([a0] : List GLine)).length) ((([a0] : List GLine)).map eGLine))))]) (fun i => bif Nat.beq i 2 then 1080 else (bif Nat.beq i 1 then 1079 else (bif Nat.beq i 0 then 1 else i))) [] hgl (by rfl) (cal_f en122) rfl (by rfl) (by rfl) (by rfl) (by rfl) (.cons (.same _) (.cons (.same _) (.cons (.same _) .nil))) rfl rfl rfl rfl (F122_Insert_ok hy14)) rfl (.c rfl (.c rfl (.c rfl .nil))) (.cons rfl (.cons rfl .nil)) (.cons rfl .nil) ?_
  refine .v (f_nilCheck (by rfl)) rfl (.c rfl .nil) .nil ?_
  refine .v (f_fieldAddr (n := 0) (by rfl) fl132_0 (by decide)) rfl (.c rfl .nil) .nil ?_
  refine .v (f_fieldAddr (n := 0) (by rfl) fl74_0 (by decide)) rfl (.c rfl .nil) .nil ?_
  refine .s (f_store (n := 0) (o := 0) (off := ((0 + 0) + 0)) (p := [0, 0]) (c := .st [.st [.slc 1 0 ((a1).length) 33]]) (old := .slc 1 0 ((a1).length) 33) (z := .slc 1080 0 ((y13).length) 33) (c' := .st [.st [.slc 1080 0 ((y13).length) 33]]) rfl rfl (by rfl) ty72 (by rfl)) rfl (.c rfl (.c rfl .nil)) (.cons rfl .nil) ?_
  refine .nil (by kernel_rfl) ?_
  refine aq_block ?_
  obtain rfl := Option.some.inj h
  refine aq_weak (s' := ⟨[], [(0, .av (.st [.st [.slc 1078 0 ((y13).length) 33]])), (1, .dead), (1078, .av (.d (.arr 33 ((y13).length) ((y13).map eGLine))))], []⟩) (fun i => (bif Nat.beq i 1078 then 1080 else i)) hb0 .nil (.cons rfl (.cons rfl (.cons rfl .nil))) rfl (by rfl) ?_
  exact aq_fin0 .nil rfl ⟨rfl, rfl⟩
 replace h := ite_f hc12 h
 refine aw_skip ?_
 refine aq_block ?_
 obtain rfl := Option.some.inj h
 refine aq_moveH 0 1 1082 rfl rfl rfl rfl rfl ?_
 refine aq_weak (s' := ⟨[], [(0, .av (.st [.st [.slc 1078 0 ((a1).length) 33]])), (1, .dead), (1078, .av (.d (.arr 33 ((a1).length) ((a1).map eGLine))))], []⟩) (fun i => (bif Nat.beq i 1078 then 1082 else i)) hb0 .nil (.cons rfl (.cons rfl (.cons rfl .nil))) rfl (by rfl) ?_
 exact aq_fin0 .nil rfl ⟨rfl, rfl⟩
end Go.Proofs.YtonfljoibcnlgaaDoor
