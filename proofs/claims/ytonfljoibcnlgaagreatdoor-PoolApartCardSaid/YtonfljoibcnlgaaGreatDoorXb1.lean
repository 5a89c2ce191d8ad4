import Derived.Test.YtonfljoibcnlgaaGreatDoorXh
namespace Go.Proofs.YtonfljoibcnlgaaGreatDoor
open Bd
set_option maxRecDepth 10000
@[reducible] def eA227 (x : (List (List Int))) : D := .arr 32 2 (x.map eA46)
structure Gshard_part where
  Shard : GShard
  deriving DecidableEq, Inhabited
@[reducible] def eGshard_part (x : Gshard_part) : D := .st [eGShard x.Shard]
theorem en66 : enterB Tryz.prog 66 = true := by kernel_rfl
theorem fl170_0 : fieldB Tryz.prog 170 0 = some (0, true, 32) := by kernel_rfl
theorem en171 : enterB Tryz.prog 171 = true := by kernel_rfl
theorem fl170_1 : fieldB Tryz.prog 170 1 = some (32, false, 1) := by kernel_rfl
theorem en163 : enterB Tryz.prog 163 = true := by kernel_rfl
theorem uda227 : Tryz.prog.underlying 227 = some (.array 2 47) := by kernel_rfl
theorem en144 : enterB Tryz.prog 144 = true := by kernel_rfl
theorem pl227_1 : placeB Tryz.prog 227 1 = some (32, 32) := by kernel_rfl
theorem pl227_0 : placeB Tryz.prog 227 0 = some (0, 32) := by kernel_rfl
theorem zr227 : ∃ zv, zeroB Tryz.prog 227 = some zv ∧ ∀ F μ w, RA F μ w (.d (eA227 (List.replicate 2 (List.replicate 32 (0 : Int))))) zv.cells.toList := zero_mk' (by kernel_rfl) (by kernel_rfl)
theorem ag227 : aggB Tryz.prog 227 = true := by kernel_rfl
theorem en164 : enterB Tryz.prog 164 = true := by kernel_rfl
theorem en162 : enterB Tryz.prog 162 = true := by kernel_rfl
theorem zrd170 : ∃ zv, zeroB Tryz.prog 170 = some zv ∧ ∀ F μ w, RA F μ w (.d (.st [(eA46 (List.replicate 32 (0 : Int))), (.val (.slice none 0 0))])) zv.cells.toList := zero_mk' (by kernel_rfl) (by kernel_rfl)
theorem en143 : enterB Tryz.prog 143 = true := by kernel_rfl
theorem en160 : enterB Tryz.prog 160 = true := by kernel_rfl
theorem en141 : enterB Tryz.prog 141 = true := by kernel_rfl
theorem en110 : enterB Tryz.prog 110 = true := by kernel_rfl
theorem pl69_1 : placeB Tryz.prog 69 1 = some (32, 1) := by kernel_rfl
theorem pl69_0 : placeB Tryz.prog 69 0 = some (0, 32) := by kernel_rfl
theorem ag69 : aggB Tryz.prog 69 = true := by kernel_rfl
theorem en74 : enterB Tryz.prog 74 = true := by kernel_rfl
theorem en69 : enterB Tryz.prog 69 = true := by kernel_rfl
theorem pl24_0 : placeB Tryz.prog 24 0 = some (0, 1) := by kernel_rfl
theorem ag24 : aggB Tryz.prog 24 = true := by kernel_rfl
theorem en68 : enterB Tryz.prog 68 = true := by kernel_rfl
theorem pl45_0 : placeB Tryz.prog 45 0 = some (0, 1) := by kernel_rfl
theorem zel45 : zelB Tryz.prog 45 = some (D.cells (.st [(.val (.slice none 0 0))])) := by kernel_rfl
theorem en32 : enterB Tryz.prog 32 = true := by kernel_rfl
theorem ty80 : tyB Tryz.prog 80 = some (true, 2) := by kernel_rfl
theorem zr80 : ∃ zv, zeroB Tryz.prog 80 = some zv ∧ ∀ F μ w, RA F μ w (.d (eGAccount (⟨(0 : Int), (0 : Int)⟩ : GAccount))) zv.cells.toList := zero_mk' (by kernel_rfl) (by kernel_rfl)
theorem ag80 : aggB Tryz.prog 80 = true := by kernel_rfl
theorem eq_eGAccount (a b : GAccount) : D.eqB (eGAccount a) (eGAccount b) = decide (a = b) := by
  show (D.eqB (eI_u64 a.Nonce) (eI_u64 b.Nonce) && (D.eqB (eI_u64 a.Balance) (eI_u64 b.Balance) && true)) = _
  rw [eq_eI_u64, eq_eI_u64]
  cases a; cases b; simp only [Bool.and_true, GAccount.mk.injEq, Bool.decide_and]
theorem udst80 : Tryz.prog.underlying 80 = some (.struct (Tryz.prog.fieldsOf 80)) := by kernel_rfl
theorem sih80 : Tryz.prog.stoodInHeld 80 = false := by kernel_rfl
theorem fq80 : fieldsQ Tryz.prog 80 = [(48, 0, false), (48, 1, false)] := by kernel_rfl
theorem fit80 {d : Nat} (a : GAccount) : Fits Tryz.prog (d + 2) 80 (eGAccount a) := fits_st udst80 sih80 fq80 ⟨rfl, rfl, ty48, fit48 _, ⟨rfl, rfl, ty48, fit48 _, trivial⟩⟩
theorem gd80 : Tryz.prog.eqGuardType Tryz.prog.depth 80 = false := by kernel_rfl
theorem en114 : enterB Tryz.prog 114 = true := by kernel_rfl
theorem fl80_1 : fieldB Tryz.prog 80 1 = some (1, false, 1) := by kernel_rfl
theorem en113 : enterB Tryz.prog 113 = true := by kernel_rfl
theorem fl80_0 : fieldB Tryz.prog 80 0 = some (0, false, 1) := by kernel_rfl
theorem en111 : enterB Tryz.prog 111 = true := by kernel_rfl
theorem en106 : enterB Tryz.prog 106 = true := by kernel_rfl
theorem en117 : enterB Tryz.prog 117 = true := by kernel_rfl
theorem en105 : enterB Tryz.prog 105 = true := by kernel_rfl
theorem en30 : enterB Tryz.prog 30 = true := by kernel_rfl
theorem en118 : enterB Tryz.prog 118 = true := by kernel_rfl
theorem fl78_0 : fieldB Tryz.prog 78 0 = some (0, true, 1) := by kernel_rfl
theorem en76 : enterB Tryz.prog 76 = true := by kernel_rfl
theorem en91 : enterB Tryz.prog 91 = true := by kernel_rfl
theorem ty76 : tyB Tryz.prog 76 = some (false, 1) := by kernel_rfl
theorem en135 : enterB Tryz.prog 135 = true := by kernel_rfl
theorem en77 : enterB Tryz.prog 77 = true := by kernel_rfl
theorem en78 : enterB Tryz.prog 78 = true := by kernel_rfl
theorem pl22_0 : placeB Tryz.prog 22 0 = some (0, 33) := by kernel_rfl
theorem zel22 : zelB Tryz.prog 22 = some (D.cells (.st [(eA46 (List.replicate 32 (0 : Int))), (.val (.slice none 0 0))])) := by kernel_rfl
theorem en36 : enterB Tryz.prog 36 = true := by kernel_rfl
theorem en99 : enterB Tryz.prog 99 = true := by kernel_rfl
theorem en44 : enterB Tryz.prog 44 = true := by kernel_rfl
theorem en45 : enterB Tryz.prog 45 = true := by kernel_rfl
theorem pl78_0 : placeB Tryz.prog 78 0 = some (0, 1) := by kernel_rfl
theorem zrv78 : ∃ zv, zeroB Tryz.prog 78 = some zv ∧ ∀ F μ w, RA F μ w (.st [.st [.N]]) zv.cells.toList := zero_stN (z := .st [.st [(.val (.slice none 0 0))]]) (zero_mk' (by kernel_rfl) (by kernel_rfl)) (.st (.cons (.st (.cons (.same _) .nil)) .nil))
theorem ag78 : aggB Tryz.prog 78 = true := by kernel_rfl
theorem ty32 : tyB Tryz.prog 32 = some (false, 1) := by kernel_rfl
theorem en71 : enterB Tryz.prog 71 = true := by kernel_rfl
theorem en109 : enterB Tryz.prog 109 = true := by kernel_rfl
theorem en108 : enterB Tryz.prog 108 = true := by kernel_rfl
theorem en67 : enterB Tryz.prog 67 = true := by kernel_rfl
theorem zr32 : ∃ zv, zeroB Tryz.prog 32 = some zv ∧ ∀ F μ w, RA F μ w (.d (eI_i64 (0 : Int))) zv.cells.toList := zero_mk' (by kernel_rfl) (by kernel_rfl)
theorem en31 : enterB Tryz.prog 31 = true := by kernel_rfl
theorem en64 : enterB Tryz.prog 64 = true := by kernel_rfl
theorem en70 : enterB Tryz.prog 70 = true := by kernel_rfl
theorem en13 : enterB Tryz.prog 13 = true := by kernel_rfl
theorem en52 : enterB Tryz.prog 52 = true := by kernel_rfl
theorem en97 : enterB Tryz.prog 97 = true := by kernel_rfl
theorem en51 : enterB Tryz.prog 51 = true := by kernel_rfl
theorem en50 : enterB Tryz.prog 50 = true := by kernel_rfl
theorem en33 : enterB Tryz.prog 33 = true := by kernel_rfl
theorem en49 : enterB Tryz.prog 49 = true := by kernel_rfl
theorem en62 : enterB Tryz.prog 62 = true := by kernel_rfl
theorem en18 : enterB Tryz.prog 18 = true := by kernel_rfl
theorem zrv27 : ∃ zv, zeroB Tryz.prog 27 = some zv ∧ ∀ F μ w, RA F μ w (.st [.N, .I (0 : Int)]) zv.cells.toList := zero_st (ds := [(.val (.slice none 0 0)), (.val (.int .i64 (0 : Int)))]) (zero_mk' (by kernel_rfl) (by kernel_rfl))
theorem ag27 : aggB Tryz.prog 27 = true := by kernel_rfl
theorem en61 : enterB Tryz.prog 61 = true := by kernel_rfl
theorem pl50_4 : placeB Tryz.prog 50 4 = some (66, 1) := by kernel_rfl
theorem ag50 : aggB Tryz.prog 50 = true := by kernel_rfl
theorem en60 : enterB Tryz.prog 60 = true := by kernel_rfl
theorem pl47_31 : placeB Tryz.prog 47 31 = some (31, 1) := by kernel_rfl
theorem en57 : enterB Tryz.prog 57 = true := by kernel_rfl
theorem ty109 : tyB Tryz.prog 109 = some (false, 1) := by kernel_rfl
theorem en42 : enterB Tryz.prog 42 = true := by kernel_rfl
theorem en88 : enterB Tryz.prog 88 = true := by kernel_rfl
theorem en41 : enterB Tryz.prog 41 = true := by kernel_rfl
theorem en11 : enterB Tryz.prog 11 = true := by kernel_rfl
theorem en58 : enterB Tryz.prog 58 = true := by kernel_rfl
theorem zrv109 : ∃ zv, zeroB Tryz.prog 109 = some zv ∧ ∀ F μ w, RA F μ w (.d (.val .nilFunc)) zv.cells.toList := zero_mk' (by kernel_rfl) (by kernel_rfl)
theorem en35 : enterB Tryz.prog 35 = true := by kernel_rfl
theorem en34 : enterB Tryz.prog 34 = true := by kernel_rfl
theorem en9 : enterB Tryz.prog 9 = true := by kernel_rfl
theorem en55 : enterB Tryz.prog 55 = true := by kernel_rfl
theorem en7 : enterB Tryz.prog 7 = true := by kernel_rfl
theorem en16 : enterB Tryz.prog 16 = true := by kernel_rfl
theorem en28 : enterB Tryz.prog 28 = true := by kernel_rfl
theorem en22 : enterB Tryz.prog 22 = true := by kernel_rfl
theorem en20 : enterB Tryz.prog 20 = true := by kernel_rfl
theorem en25 : enterB Tryz.prog 25 = true := by kernel_rfl
def F162_pairs_Check_s0 (n : Nat) (a0 : (List GPair)) (z0_0 : Int) : Option ((Int) ⊕ ((Unit) ⊕ (Unit))) :=
  (if (decide (z0_0 < ((a0).length : Int))) = true then ((rd a0 z0_0).bind fun (x3 : GPair) => ((((F171_pairs_value n x3.Value).bind fun (y6 : Bool) => (if (!y6) = true then some true else (if (decide (z0_0 > (0 : Int))) = true then ((rd a0 (IntKind.i64.wrap (z0_0 - (1 : Int)))).bind fun (x10 : GPair) => ((F66_path_Ahead n x10.Key x3.Key).bind fun (y13 : Bool) => some (!y13))) else some false)))).bind fun (o15 : Bool) => (if o15 = true then some (.inr (.inr ())) else some (.inl (IntKind.i64.wrap (z0_0 + (1 : Int))))))) else some (.inr (.inl ())))
def F162_pairs_Check (n : Nat) (a0 : (List GPair)) : Option (Int) :=
  (if (decide (((a0).length : Int) > (512 : Int))) = true then some (8 : Int) else ((loopF (fun (z : Int) => F162_pairs_Check_s0 n a0 z) n (0 : Int)).bind (Sum.elim (fun (j18 : Unit) => some (0 : Int)) (fun (j18 : Unit) => some (8 : Int)))))
theorem F162_pairs_Check_ok {n : Nat} {a0 : (List GPair)} {r : Int} (h : F162_pairs_Check n a0 = some r) :
    ACall Tryz.prog GS 162 [.d (eL91 a0)] [] (fun r' hp' => r' = .I r ∧ hp' = []) := by
 refine acall_of_body mixed Tryz.func162 rfl (by rfl) ?_
 intro C hro hgl hb0
 unfold F162_pairs_Check at h
 refine aw_rs ?_
 refine .a rfl ?_
 refine .nil (aq_then ?_)
 refine aw_seq ?_
 refine aw_rs ?_
 refine .m rfl ?_
 refine .v1 (f_lenD (n := (a0).length) (by rfl) sl91 rfl (by simp)) rfl rfl ?_
 refine .b rfl rfl rfl ?_
 refine .nil (aq_then ?_)
 refine aw_cond rfl (fun hc1 => ?_) (fun hc1 => ?_)
 ·replace h := ite_t hc1 h
  refine aw_rs ?_
  refine .a rfl ?_
  refine .nil (aq_then ?_)
  refine aw_ret ?_
  refine aq_then_ret ?_
  obtain rfl := Option.some.inj h
  exact aq_finp hb0 rfl (.tmp rfl (by rfl) .nil) (by rfl) rfl ⟨rfl, rfl⟩
 replace h := ite_f hc1 h
 refine aw_skip ?_
 refine aq_then ?_
 refine aw_seq ?_
 refine aw_rs ?_
 refine .m rfl ?_
 refine .v1 (f_lenD (n := (a0).length) (by rfl) sl91 rfl (by simp)) rfl rfl ?_
 refine .m rfl ?_
 refine .nil (aq_then ?_)
 refine aw_block ?_
 refine aw_k hb0 (.k 0 rfl (.k 8 rfl (.k 9 rfl (.k 10 rfl .nil)))) .nil ?_
 obtain ⟨o18, ho19, h⟩ := bind_some h
 refine aw_loopX (σ := Int) (fun z => ⟨[(0, .d (eL91 a0)), (8, .d (eL91 a0)), (9, .I ((a0).length : Int)), (10, .I z)], [], []⟩) (Sum.elim (fun _ => .exit 0) (fun _ => .ret)) (Sum.elim (fun j18 => ⟨[], [], []⟩) (fun j18 => ⟨[(2, .I (8 : Int))], [], []⟩)) ho19 (by intro b; rcases b with _ | _ <;> rfl) ?_ ?_
 ·clear h ho19
  intro z0_0 o h
  change F162_pairs_Check_s0 n a0 z0_0 = some o at h
  unfold F162_pairs_Check_s0 at h
  show AW _ _ _ ⟨[(0, .d (eL91 a0)), (8, .d (eL91 a0)), (9, .I ((a0).length : Int)), (10, .I z0_0)], [], []⟩
  refine aw_rs ?_
  refine .b rfl rfl rfl ?_
  refine .nil (aq_then ?_)
  refine aw_seq ?_
  refine aw_cond rfl (fun hc2 => ?_) (fun hc2 => ?_)
  ·replace h := ite_t hc2 h
   refine aw_skip ?_
   refine aq_then ?_
   refine aw_seq ?_
   refine aw_block ?_
   refine aw_rs ?_
   refine .m rfl ?_
   obtain ⟨x3, hx4, h⟩ := bind_some h
   obtain ⟨hx5, hx4⟩ := rd_some hx4
   refine .v2 (f_indexS (by rfl) sl91 hx5 (rd_map _ hx4)) rfl rfl rfl ?_
   refine .v1 (f_loadR (z := (eGPair x3)) (by rfl) ty170) rfl rfl ?_
   refine .n (f_alloc 4 (by rfl) zrv170) rfl .nil rfl ?_
   refine .a rfl ?_
   refine .s (f_store (n := 0) (o := 4) (off := 0) (p := []) (c := .st [.d (eA46 (List.replicate 32 (0 : Int))), .N]) (old := .st [.d (eA46 (List.replicate 32 (0 : Int))), .N]) (z := .d (eGPair x3)) (c' := .d (eGPair x3)) rfl rfl (by rfl) ty170 (by rfl)) rfl (.c rfl (.c rfl .nil)) (.cons rfl .nil) ?_
   refine .nil (aq_then ?_)
   refine aw_seq ?_
   obtain ⟨o15, ho17, h⟩ := bind_some h
   refine aw_join (.normal) ⟨[(0, .d (eL91 a0)), (8, .d (eL91 a0)), (9, .I ((a0).length : Int)), (10, .I z0_0), (34, .B o15)], [], []⟩ ?_ ?_
   ·replace h := ho17
    refine aw_rd ?_
    refine .v1 (f_fieldAddr (n := 32) (by rfl) fl170_1 (by decide)) rfl rfl ?_
    refine .v (f_load (n := 0) (o := 4) (off := (0 + 32)) (p := [1]) (c := .d (eGPair x3)) (z := .d (eL70 x3.Value)) (by rfl) rfl ty70 (by rfl)) rfl (.c rfl .nil) (.cons rfl .nil) ?_
    obtain ⟨y6, hy7, h⟩ := bind_some h
    refine .v1 (f_callP hgl (by rfl) en171 rfl (by rfl) (by rfl) (by rfl) (F171_pairs_value_ok hy7)) rfl rfl ?_
    refine .v1 (f_not (by rfl)) rfl rfl ?_
    refine .v1 (f_move (by rfl)) rfl rfl ?_
    rcases Bool.eq_false_or_eq_true (!y6) with hc8 | hc8
    ·replace h := ite_t hc8 h
     refine .q rfl rfl rfl hc8 rfl ?_
     refine .q rfl rfl rfl hc8 rfl ?_
     refine .q rfl rfl rfl hc8 rfl ?_
     refine .offu rfl rfl rfl rfl (by rfl) ?_
     refine .offu rfl rfl rfl rfl (by rfl) ?_
     refine .offu rfl rfl rfl rfl (by rfl) ?_
     refine .offu rfl rfl rfl rfl (by rfl) ?_
     refine .offu rfl rfl rfl rfl (by rfl) ?_
     refine .offu rfl rfl rfl rfl (by rfl) ?_
     refine .offu rfl rfl rfl rfl (by rfl) ?_
     refine .offu rfl rfl rfl rfl (by rfl) ?_
     refine .offu rfl rfl rfl rfl (by rfl) ?_
     refine .offu rfl rfl rfl rfl (by rfl) ?_
     refine .q rfl rfl rfl hc8 rfl ?_
     refine .v2 (f_pick_true (by rfl) hc8) rfl rfl rfl ?_
     refine .nil (by kernel_rfl) ?_
     obtain rfl := Option.some.inj h
     refine aq_k hb0 (.k 0 rfl (.k 8 rfl (.k 9 rfl (.k 10 rfl (.k 34 rfl .nil))))) .nil ?_
     exact jq
    replace h := ite_f hc8 h
    refine .g1 (f_move (by rfl)) rfl rfl rfl hc8 rfl ?_
    refine .g2 (f_binI (by rfl) rfl (by rfl)) rfl rfl rfl hc8 rfl rfl ?_
    refine .g1 (f_move (by rfl)) rfl rfl rfl hc8 rfl ?_
    rcases Bool.eq_false_or_eq_true (decide (z0_0 > (0 : Int))) with hc9 | hc9
    ·replace h := ite_t hc9 h
     refine .g1 (f_move (by rfl)) rfl rfl rfl hc9 rfl ?_
     refine .g1 (f_move (by rfl)) rfl rfl rfl hc9 rfl ?_
     refine .g2 (f_binI (by rfl) rfl (by rfl)) rfl rfl rfl hc9 rfl rfl ?_
     obtain ⟨x10, hx11, h⟩ := bind_some h
     obtain ⟨hx12, hx11⟩ := rd_some hx11
     refine .g2 (f_indexS (by rfl) sl91 hx12 (rd_map _ hx11)) rfl rfl rfl hc9 rfl rfl ?_
     refine .g1 (f_fieldAddrR (by rfl) fl170_0 (by decide) rfl) rfl rfl rfl hc9 rfl ?_
     refine .g1 (f_loadR (z := (eA46 x10.Key)) (by rfl) ty47) rfl rfl rfl hc9 rfl ?_
     refine .g1 (f_fieldAddr (n := 0) (by rfl) fl170_0 (by decide)) rfl rfl rfl hc9 rfl ?_
     refine .gv (f_load (n := 0) (o := 4) (off := (0 + 0)) (p := [0]) (c := .d (eGPair x3)) (z := .d (eA46 x3.Key)) (by rfl) rfl ty47 (by rfl)) rfl rfl rfl hc9 (.c rfl .nil) (.cons rfl .nil) ?_
     obtain ⟨y13, hy14, h⟩ := bind_some h
     refine .g2 (f_callP hgl (by rfl) en66 rfl (by rfl) (by rfl) (by rfl) (F66_path_Ahead_ok hy14)) rfl rfl rfl hc9 rfl rfl ?_
     refine .g1 (f_not (by rfl)) rfl rfl rfl hc9 rfl ?_
     refine .g2 (f_pick_true (by rfl) hc9) rfl rfl rfl hc8 rfl rfl ?_
     refine .v2 (f_pick_false (by rfl) hc8) rfl rfl rfl ?_
     refine .nil (by kernel_rfl) ?_
     obtain rfl := Option.some.inj h
     refine aq_k hb0 (.k 0 rfl (.k 8 rfl (.k 9 rfl (.k 10 rfl (.k 34 rfl .nil))))) .nil ?_
     exact jq
    replace h := ite_f hc9 h
    refine .q rfl rfl rfl hc9 rfl ?_
    refine .q rfl rfl rfl hc9 rfl ?_
    refine .q rfl rfl rfl hc9 rfl ?_
    refine .q rfl rfl rfl hc9 rfl ?_
    refine .q rfl rfl rfl hc9 rfl ?_
    refine .q rfl rfl rfl hc9 rfl ?_
    refine .q rfl rfl rfl hc9 rfl ?_
    refine .q rfl rfl rfl hc9 rfl ?_
    refine .q rfl rfl rfl hc9 rfl ?_
    refine .q rfl rfl rfl hc9 rfl ?_
    refine .g2 (f_pick_false (by rfl) hc9) rfl rfl rfl hc8 rfl rfl ?_
    refine .v2 (f_pick_false (by rfl) hc8) rfl rfl rfl ?_
    refine .nil (by kernel_rfl) ?_
    obtain rfl := Option.some.inj h
    refine aq_k hb0 (.k 0 rfl (.k 8 rfl (.k 9 rfl (.k 10 rfl (.k 34 rfl .nil))))) .nil ?_
    exact jq
   refine aq_then ?_
   refine aw_cond rfl (fun hc16 => ?_) (fun hc16 => ?_)
   ·replace h := ite_t hc16 h
    refine aw_rs ?_
    refine .a rfl ?_
    refine .nil (aq_then ?_)
    refine aw_ret ?_
    refine aq_block_ret ?_
    refine aq_then_ret ?_
    obtain rfl := Option.some.inj h
    refine aq_k hb0 (.k 2 rfl .nil) .nil ?_
    exact jq
   replace h := ite_f hc16 h
   refine aw_skip ?_
   refine aq_block ?_
   refine aq_then ?_
   refine aw_r ?_
   refine .b rfl rfl rfl ?_
   refine .m rfl ?_
   refine .nil ?_
   obtain rfl := Option.some.inj h
   refine aq_k hb0 (.k 0 rfl (.k 8 rfl (.k 9 rfl (.k 10 rfl .nil)))) .nil ?_
   exact jq
  replace h := ite_f hc2 h
  refine aw_exit ?_
  refine aq_then_exit ?_
  obtain rfl := Option.some.inj h
  refine aq_k hb0 .nil .nil ?_
  exact jq
 rcases o18 with j18 | j18
 ·replace h := elim_l h
  refine aq_block_exit ?_
  refine aq_then ?_
  refine aw_rs ?_
  refine .a rfl ?_
  refine .nil (aq_then ?_)
  refine aw_ret ?_
  obtain rfl := Option.some.inj h
  exact aq_finp hb0 rfl (.tmp rfl (by rfl) .nil) (by rfl) rfl ⟨rfl, rfl⟩
 replace h := elim_r h
 refine aq_block_ret ?_
 refine aq_then_ret ?_
 obtain rfl := Option.some.inj h
 exact aq_finp hb0 rfl (.tmp rfl (by rfl) .nil) (by rfl) rfl ⟨rfl, rfl⟩
def F144_tree_right : Nat → GTree → Int → Int → (List Int) →  Option (Bool × Bool)
  | 0, _, _, _, _ => none
  | n + 1, a0, a1, a2, a3 =>
  (if (a1 == (0 : Int)) = true then some (true, false) else ((rd a0.Nodes (IntKind.i64.wrap (a1 - (1 : Int)))).bind fun (x2 : GNode) => (if x2.Leaf = true then ((F163_path_Shared n x2.Key a3).bind fun (y6 : Int) => some ((decide (y6 ≥ a2)), false)) else (if (a2 == (256 : Int)) = true then some (false, false) else ((F164_path_Turn n a3 a2).bind fun (y9 : (List Int) × Int) => ((loopF (fun (z : Bool × Int × Int) => (fun (z0_0 : Bool) (z0_1 : Int) (z0_2 : Int) => ((if (decide (z0_2 < (2 : Int))) = true then ((rd ([a3, y9.1] : List (List Int)) z0_2).bind fun (x12 : (List Int)) => ((F145_tree_roads n x2).bind fun (y15 : (List Int)) => ((rd y15 z0_2).bind fun (x17 : Int) => ((F144_tree_right n a0 x17 (IntKind.i64.wrap (a2 + (1 : Int))) x12).bind fun (y20 : Bool × Bool) => (if (!y20.1) = true then some (.inr (.inr ())) else (if (decide (x17 > (0 : Int))) = true then (((if z0_0 = true then some true else some y20.2)).bind fun (o25 : Bool) => some (.inl (o25, (IntKind.i64.wrap (z0_1 + (1 : Int))), (IntKind.i64.wrap (z0_2 + (1 : Int)))))) else (((if z0_0 = true then some true else some y20.2)).bind fun (o28 : Bool) => some (.inl (o28, z0_1, (IntKind.i64.wrap (z0_2 + (1 : Int)))))))))))) else some (.inr (.inl (z0_0, z0_1)))) : Option ((Bool × Int × Int) ⊕ ((Bool × Int) ⊕ (Unit))))) z.1 z.2.1 z.2.2) n (false, (0 : Int), (0 : Int))).bind (Sum.elim (fun (j30 : Bool × Int) => (((if j30.1 = true then some true else some (j30.2 == (2 : Int)))).bind fun (o33 : Bool) => some (o33, o33))) (fun (j30 : Unit) => some (false, false)))))))))
theorem F144_tree_right_rec (n : Nat) : ∀ (a0 : GTree) (a1 : Int) (a2 : Int) (a3 : (List Int)) (r : Bool × Bool), F144_tree_right n a0 a1 a2 a3 = some r →
    ACall Tryz.prog GS 144 [.d (eGTree a0), .I a1, .I a2, .d (eA46 a3)] [] (fun r' hp' => r' = .res [.B r.1, .B r.2] ∧ hp' = []) := by
 induction n with
 | zero => intro a0 a1 a2 a3 r h; simp only [F144_tree_right] at h; cases h
 | succ n ih =>
  intro a0 a1 a2 a3 r h
  refine acall_of_body mixed Tryz.func144 rfl (by rfl) ?_
  intro C hro hgl hb0
  simp only [F144_tree_right] at h
  refine aw_rs ?_
  refine .n (f_box 4 (by rfl) (by rfl)) rfl (.c rfl .nil) rfl ?_
  refine .n (f_box 7 (by rfl) (by rfl)) rfl (.c rfl .nil) rfl ?_
  refine .a rfl ?_
  refine .a rfl ?_
  refine .nil (aq_then ?_)
  refine aw_seq ?_
  refine aw_rs ?_
  refine .m rfl ?_
  refine .b rfl rfl rfl ?_
  refine .nil (aq_then ?_)
  refine aw_cond rfl (fun hc1 => ?_) (fun hc1 => ?_)
  ·replace h := ite_t hc1 h
   refine aw_rs ?_
   refine .a rfl ?_
   refine .a rfl ?_
   refine .nil (aq_then ?_)
   refine aw_ret ?_
   refine aq_then_ret ?_
   obtain rfl := Option.some.inj h
   exact aq_finp hb0 rfl (.tmp rfl (by rfl) (.tmp rfl (by rfl) .nil)) (by rfl) rfl ⟨rfl, rfl⟩
  replace h := ite_f hc1 h
  refine aw_skip ?_
  refine aq_then ?_
  refine aw_rs ?_
  refine .v1 (f_fieldAddr (n := 0) (by rfl) fl27_0 (by decide)) rfl rfl ?_
  refine .l 4 (0 + 0) [0] (.d (eGTree a0)) (.d (eL25 a0.Nodes)) ty25 ?_
  refine .m rfl ?_
  refine .b rfl rfl rfl ?_
  obtain ⟨x2, hx3, h⟩ := bind_some h
  obtain ⟨hx4, hx3⟩ := rd_some hx3
  refine .v2 (f_indexS (by rfl) sl25 hx4 (rd_map _ hx3)) rfl rfl rfl ?_
  refine .v1 (f_loadR (z := (eGNode x2)) (by rfl) ty72) rfl rfl ?_
  refine .n (f_alloc 10 (by rfl) zrv72) rfl .nil rfl ?_
  refine .s (f_store (n := 0) (o := 10) (off := 0) (p := []) (c := .st [.B false, .d (eA46 (List.replicate 32 (0 : Int))), .N, .I (0 : Int), .I (0 : Int)]) (old := .st [.B false, .d (eA46 (List.replicate 32 (0 : Int))), .N, .I (0 : Int), .I (0 : Int)]) (z := .d (eGNode x2)) (c' := .d (eGNode x2)) rfl rfl (by rfl) ty72 (by rfl)) rfl (.c rfl (.c rfl .nil)) (.cons rfl .nil) ?_
  refine .nil (aq_then ?_)
  refine aw_seq ?_
  refine aw_rs ?_
  refine .v1 (f_fieldAddr (n := 0) (by rfl) fl72_0 (by decide)) rfl rfl ?_
  refine .l 10 (0 + 0) [0] (.d (eGNode x2)) (.B x2.Leaf) ty4 ?_
  refine .nil (aq_then ?_)
  refine aw_cond rfl (fun hc5 => ?_) (fun hc5 => ?_)
  ·replace h := ite_t hc5 h
   refine aw_rs ?_
   refine .v1 (f_fieldAddr (n := 1) (by rfl) fl72_1 (by decide)) rfl rfl ?_
   refine .l 10 (0 + 1) [1] (.d (eGNode x2)) (.d (eA46 x2.Key)) ty47 ?_
   refine .l 7 0 [] (.d (eA46 a3)) (.d (eA46 a3)) ty47 ?_
   obtain ⟨y6, hy7, h⟩ := bind_some h
   refine .v2 (f_callP hgl (by rfl) en163 rfl (by rfl) (by rfl) (by rfl) (F163_path_Shared_ok hy7)) rfl rfl rfl ?_
   refine .m rfl ?_
   refine .b rfl rfl rfl ?_
   refine .a rfl ?_
   refine .a rfl ?_
   refine .nil (aq_then ?_)
   refine aw_ret ?_
   refine aq_then_ret ?_
   obtain rfl := Option.some.inj h
   exact aq_finp hb0 rfl (.tmp rfl (by rfl) (.tmp rfl (by rfl) .nil)) (by rfl) rfl ⟨rfl, rfl⟩
  replace h := ite_f hc5 h
  refine aw_skip ?_
  refine aq_then ?_
  refine aw_seq ?_
  refine aw_rs ?_
  refine .m rfl ?_
  refine .b rfl rfl rfl ?_
  refine .nil (aq_then ?_)
  refine aw_cond rfl (fun hc8 => ?_) (fun hc8 => ?_)
  ·replace h := ite_t hc8 h
   refine aw_rs ?_
   refine .a rfl ?_
   refine .a rfl ?_
   refine .nil (aq_then ?_)
   refine aw_ret ?_
   refine aq_then_ret ?_
   obtain rfl := Option.some.inj h
   exact aq_finp hb0 rfl (.tmp rfl (by rfl) (.tmp rfl (by rfl) .nil)) (by rfl) rfl ⟨rfl, rfl⟩
  replace h := ite_f hc8 h
  refine aw_skip ?_
  refine aq_then ?_
  refine aw_rs ?_
  refine .l 7 0 [] (.d (eA46 a3)) (.d (eA46 a3)) ty47 ?_
  refine .m rfl ?_
  obtain ⟨y9, hy10, h⟩ := bind_some h
  refine .v2 (f_callP hgl (by rfl) en164 rfl (by rfl) (by rfl) (by rfl) (F164_path_Turn_ok hy10)) rfl rfl rfl ?_
  refine .m rfl ?_
  refine .v1 (f_extract (by rfl) rfl) rfl rfl ?_
  refine .v1 (f_extract (by rfl) rfl) rfl rfl ?_
  refine .n (f_alloc 11 (by rfl) zr47) rfl .nil rfl ?_
  refine .s (f_store (n := 0) (o := 11) (off := 0) (p := []) (c := .d (eA46 (List.replicate 32 (0 : Int)))) (old := .d (eA46 (List.replicate 32 (0 : Int)))) (z := .d (eA46 y9.1)) (c' := .d (eA46 y9.1)) rfl rfl (by rfl) ty47 (by rfl)) rfl (.c rfl (.c rfl .nil)) (.cons rfl .nil) ?_
  refine .a rfl ?_
  refine .z ?_
  refine .a rfl ?_
  refine .nil (aq_then ?_)
  refine aw_seq ?_
  refine aw_rs ?_
  refine .l 7 0 [] (.d (eA46 a3)) (.d (eA46 a3)) ty47 ?_
  refine .l 11 0 [] (.d (eA46 y9.1)) (.d (eA46 y9.1)) ty47 ?_
  refine .v2 (f_build (xs := [(0, .d (eA46 a3)), (1, .d (eA46 y9.1))]) (z' := .d (eA227 ([a3, y9.1] : List (List Int)))) (by rfl) zr227 ag227 rfl (by rfl) ⟨_, _, _, rfl, pl227_0, rfl, rfl, ⟨_, _, _, rfl, pl227_1, rfl, rfl, trivial⟩⟩ (by rfl) (by rfl)) rfl rfl rfl ?_
  refine .m rfl ?_
  refine .nil (aq_then ?_)
  refine aw_block ?_
  refine aw_k hb0 (.k 2 rfl (.k 4 rfl (.k 9 rfl (.k 10 rfl (.k 13 rfl (.k 45 rfl (.k 46 rfl .nil))))))) (.k 4 rfl (.k 10 rfl .nil)) ?_
  obtain ⟨o30, ho31, h⟩ := bind_some h
  refine aw_loopX (σ := Bool × Int × Int) (fun z => ⟨[(2, .I a2), (4, .ptr 4 0 []), (9, .B z.1), (10, .ptr 10 0 []), (13, .I z.2.1), (45, .d (eA227 ([a3, y9.1] : List (List Int)))), (46, .I z.2.2)], [(4, .av (.d (eGTree a0))), (10, .av (.d (eGNode x2)))], []⟩) (Sum.elim (fun _ => .exit 0) (fun _ => .ret)) (Sum.elim (fun j30 => ⟨[(9, .B j30.1), (13, .I j30.2)], [], []⟩) (fun j30 => ⟨[(8, .B false), (9, .B false)], [], []⟩)) ho31 (by intro b; rcases b with _ | _ <;> rfl) ?_ ?_
  ·clear h ho31
   rintro ⟨z0_0, z0_1, z0_2⟩ o h
   dsimp only at h
   show AW _ _ _ ⟨[(2, .I a2), (4, .ptr 4 0 []), (9, .B z0_0), (10, .ptr 10 0 []), (13, .I z0_1), (45, .d (eA227 ([a3, y9.1] : List (List Int)))), (46, .I z0_2)], [(4, .av (.d (eGTree a0))), (10, .av (.d (eGNode x2)))], []⟩
   refine aw_rs ?_
   refine .b rfl rfl rfl ?_
   refine .nil (aq_then ?_)
   refine aw_seq ?_
   refine aw_cond rfl (fun hc11 => ?_) (fun hc11 => ?_)
   ·replace h := ite_t hc11 h
    refine aw_skip ?_
    refine aq_then ?_
    refine aw_seq ?_
    refine aw_block ?_
    refine aw_rs ?_
    refine .m rfl ?_
    obtain ⟨x12, hx13, h⟩ := bind_some h
    obtain ⟨hx14, hx13⟩ := rd_some hx13
    refine .v2 (f_indexV (z := (eA46 x12)) (by rfl) uda227 ty47 hx14 (rd_map eA46 hx13)) rfl rfl rfl ?_
    refine .n (f_alloc 15 (by rfl) zr47) rfl .nil rfl ?_
    refine .a rfl ?_
    refine .s (f_store (n := 0) (o := 15) (off := 0) (p := []) (c := .d (eA46 (List.replicate 32 (0 : Int)))) (old := .d (eA46 (List.replicate 32 (0 : Int)))) (z := .d (eA46 x12)) (c' := .d (eA46 x12)) rfl rfl (by rfl) ty47 (by rfl)) rfl (.c rfl (.c rfl .nil)) (.cons rfl .nil) ?_
    refine .z ?_
    refine .l 10 0 [] (.d (eGNode x2)) (.d (eGNode x2)) ty72 ?_
    obtain ⟨y15, hy16, h⟩ := bind_some h
    refine .v1 (f_callP hgl (by rfl) en145 rfl (by rfl) (by rfl) (by rfl) (F145_tree_roads_ok hy16)) rfl rfl ?_
    refine .m rfl ?_
    obtain ⟨x17, hx18, h⟩ := bind_some h
    obtain ⟨hx19, hx18⟩ := rd_some hx18
    refine .v2 (f_indexV (z := (.val (.int .i64 x17))) (by rfl) uda201 ty3 hx19 (rd_map eI_i64 hx18)) rfl rfl rfl ?_
    refine .a rfl ?_
    refine .z ?_
    refine .l 4 0 [] (.d (eGTree a0)) (.d (eGTree a0)) ty27 ?_
    refine .m rfl ?_
    refine .m rfl ?_
    refine .b rfl rfl rfl ?_
    refine .l 15 0 [] (.d (eA46 x12)) (.d (eA46 x12)) ty47 ?_
    obtain ⟨y20, hy21, h⟩ := bind_some h
    refine .v (f_callP hgl (by rfl) en144 rfl (by rfl) (by rfl) (by rfl) (ih _ _ _ _ _ hy21)) rfl (.c rfl (.c rfl (.c rfl (.c rfl .nil)))) .nil ?_
    refine .m rfl ?_
    refine .v1 (f_extract (by rfl) rfl) rfl rfl ?_
    refine .v1 (f_extract (by rfl) rfl) rfl rfl ?_
    refine .a rfl ?_
    refine .a rfl ?_
    refine .nil (aq_then ?_)
    refine aw_seq ?_
    refine aw_rs ?_
    refine .m rfl ?_
    refine .v1 (f_not (by rfl)) rfl rfl ?_
    refine .nil (aq_then ?_)
    refine aw_cond rfl (fun hc22 => ?_) (fun hc22 => ?_)
    ·replace h := ite_t hc22 h
     refine aw_rs ?_
     refine .a rfl ?_
     refine .a rfl ?_
     refine .nil (aq_then ?_)
     refine aw_ret ?_
     refine aq_then_ret ?_
     refine aq_block_ret ?_
     refine aq_then_ret ?_
     obtain rfl := Option.some.inj h
     refine aq_k hb0 (.k 8 rfl (.k 9 rfl .nil)) .nil ?_
     exact jq
    replace h := ite_f hc22 h
    refine aw_skip ?_
    refine aq_then ?_
    refine aw_seq ?_
    refine aw_rs ?_
    refine .m rfl ?_
    refine .b rfl rfl rfl ?_
    refine .nil (aq_then ?_)
    refine aw_cond rfl (fun hc23 => ?_) (fun hc23 => ?_)
    ·replace h := ite_t hc23 h
     refine aw_r ?_
     refine .m rfl ?_
     refine .b rfl rfl rfl ?_
     refine .a rfl ?_
     refine .nil ?_
     refine aq_then ?_
     obtain ⟨o25, ho26, h⟩ := bind_some h
     refine aw_join (.normal) ⟨[(2, .I a2), (4, .ptr 4 0 []), (9, .B o25), (10, .ptr 10 0 []), (13, .I (IntKind.i64.wrap (z0_1 + (1 : Int)))), (45, .d (eA227 ([a3, y9.1] : List (List Int)))), (46, .I z0_2)], [(4, .av (.d (eGTree a0))), (10, .av (.d (eGNode x2)))], []⟩ ?_ ?_
     ·replace h := ho26
      refine aw_r ?_
      refine .m rfl ?_
      refine .m rfl ?_
      rcases Bool.eq_false_or_eq_true z0_0 with hc24 | hc24
      ·replace h := ite_t hc24 h
       refine .q rfl rfl rfl hc24 rfl ?_
       refine .v2 (f_pick_true (by rfl) hc24) rfl rfl rfl ?_
       refine .a rfl ?_
       refine .nil ?_
       obtain rfl := Option.some.inj h
       refine aq_k hb0 (.k 2 rfl (.k 4 rfl (.k 9 rfl (.k 10 rfl (.k 13 rfl (.k 45 rfl (.k 46 rfl .nil))))))) (.k 4 rfl (.k 10 rfl .nil)) ?_
       exact jq
      replace h := ite_f hc24 h
      refine .g1 (f_move (by rfl)) rfl rfl rfl hc24 rfl ?_
      refine .v2 (f_pick_false (by rfl) hc24) rfl rfl rfl ?_
      refine .a rfl ?_
      refine .nil ?_
      obtain rfl := Option.some.inj h
      refine aq_k hb0 (.k 2 rfl (.k 4 rfl (.k 9 rfl (.k 10 rfl (.k 13 rfl (.k 45 rfl (.k 46 rfl .nil))))))) (.k 4 rfl (.k 10 rfl .nil)) ?_
      exact jq
     refine aq_block ?_
     refine aq_then ?_
     refine aw_r ?_
     refine .b rfl rfl rfl ?_
     refine .m rfl ?_
     refine .nil ?_
     obtain rfl := Option.some.inj h
     refine aq_k hb0 (.k 2 rfl (.k 4 rfl (.k 9 rfl (.k 10 rfl (.k 13 rfl (.k 45 rfl (.k 46 rfl .nil))))))) (.k 4 rfl (.k 10 rfl .nil)) ?_
     exact jq
    replace h := ite_f hc23 h
    refine aw_skip ?_
    refine aq_then ?_
    obtain ⟨o28, ho29, h⟩ := bind_some h
    refine aw_join (.normal) ⟨[(2, .I a2), (4, .ptr 4 0 []), (9, .B o28), (10, .ptr 10 0 []), (13, .I z0_1), (45, .d (eA227 ([a3, y9.1] : List (List Int)))), (46, .I z0_2)], [(4, .av (.d (eGTree a0))), (10, .av (.d (eGNode x2)))], []⟩ ?_ ?_
    ·replace h := ho29
     refine aw_r ?_
     refine .m rfl ?_
     refine .m rfl ?_
     rcases Bool.eq_false_or_eq_true z0_0 with hc27 | hc27
     ·replace h := ite_t hc27 h
      refine .q rfl rfl rfl hc27 rfl ?_
      refine .v2 (f_pick_true (by rfl) hc27) rfl rfl rfl ?_
      refine .a rfl ?_
      refine .nil ?_
      obtain rfl := Option.some.inj h
      refine aq_k hb0 (.k 2 rfl (.k 4 rfl (.k 9 rfl (.k 10 rfl (.k 13 rfl (.k 45 rfl (.k 46 rfl .nil))))))) (.k 4 rfl (.k 10 rfl .nil)) ?_
      exact jq
     replace h := ite_f hc27 h
     refine .g1 (f_move (by rfl)) rfl rfl rfl hc27 rfl ?_
     refine .v2 (f_pick_false (by rfl) hc27) rfl rfl rfl ?_
     refine .a rfl ?_
     refine .nil ?_
     obtain rfl := Option.some.inj h
     refine aq_k hb0 (.k 2 rfl (.k 4 rfl (.k 9 rfl (.k 10 rfl (.k 13 rfl (.k 45 rfl (.k 46 rfl .nil))))))) (.k 4 rfl (.k 10 rfl .nil)) ?_
     exact jq
    refine aq_block ?_
    refine aq_then ?_
    refine aw_r ?_
    refine .b rfl rfl rfl ?_
    refine .m rfl ?_
    refine .nil ?_
    obtain rfl := Option.some.inj h
    refine aq_k hb0 (.k 2 rfl (.k 4 rfl (.k 9 rfl (.k 10 rfl (.k 13 rfl (.k 45 rfl (.k 46 rfl .nil))))))) (.k 4 rfl (.k 10 rfl .nil)) ?_
    exact jq
   replace h := ite_f hc11 h
   refine aw_exit ?_
   refine aq_then_exit ?_
   obtain rfl := Option.some.inj h
   refine aq_k hb0 (.k 9 rfl (.k 13 rfl .nil)) .nil ?_
   exact jq
  rcases o30 with j30 | j30
  ·replace h := elim_l h
   refine aq_block_exit ?_
   refine aq_then ?_
   refine aw_seq ?_
   obtain ⟨o33, ho34, h⟩ := bind_some h
   refine aw_join (.normal) ⟨[(9, .B o33)], [], []⟩ ?_ ?_
   ·replace h := ho34
    refine aw_r ?_
    refine .m rfl ?_
    refine .m rfl ?_
    rcases Bool.eq_false_or_eq_true j30.1 with hc32 | hc32
    ·replace h := ite_t hc32 h
     refine .q rfl rfl rfl hc32 rfl ?_
     refine .q rfl rfl rfl hc32 rfl ?_
     refine .v2 (f_pick_true (by rfl) hc32) rfl rfl rfl ?_
     refine .a rfl ?_
     refine .nil ?_
     obtain rfl := Option.some.inj h
     refine aq_k hb0 (.k 9 rfl .nil) .nil ?_
     exact jq
    replace h := ite_f hc32 h
    refine .g1 (f_move (by rfl)) rfl rfl rfl hc32 rfl ?_
    refine .g2 (f_binI (by rfl) rfl (by rfl)) rfl rfl rfl hc32 rfl rfl ?_
    refine .v2 (f_pick_false (by rfl) hc32) rfl rfl rfl ?_
    refine .a rfl ?_
    refine .nil ?_
    obtain rfl := Option.some.inj h
    refine aq_k hb0 (.k 9 rfl .nil) .nil ?_
    exact jq
   refine aq_then ?_
   refine aw_rs ?_
   refine .m rfl ?_
   refine .m rfl ?_
   refine .a rfl ?_
   refine .a rfl ?_
   refine .nil (aq_then ?_)
   refine aw_ret ?_
   obtain rfl := Option.some.inj h
   exact aq_finp hb0 rfl (.tmp rfl (by rfl) (.tmp rfl (by rfl) .nil)) (by rfl) rfl ⟨rfl, rfl⟩
  replace h := elim_r h
  refine aq_block_ret ?_
  refine aq_then_ret ?_
  obtain rfl := Option.some.inj h
  exact aq_finp hb0 rfl (.tmp rfl (by rfl) (.tmp rfl (by rfl) .nil)) (by rfl) rfl ⟨rfl, rfl⟩
theorem F144_tree_right_ok {n : Nat} {a0 : GTree} {a1 : Int} {a2 : Int} {a3 : (List Int)} {r : Bool × Bool} (h : F144_tree_right n a0 a1 a2 a3 = some r) :
    ACall Tryz.prog GS 144 [.d (eGTree a0), .I a1, .I a2, .d (eA46 a3)] [] (fun r' hp' => r' = .res [.B r.1, .B r.2] ∧ hp' = []) := F144_tree_right_rec n a0 a1 a2 a3 r h
def F143_tree_one_s0 (a1 : Int) (y8 : (List Int)) (z0_0 : Int) : Option ((Int) ⊕ ((Unit) ⊕ (Unit))) :=
  (if (decide (z0_0 < (2 : Int))) = true then ((rd y8 z0_0).bind fun (x11 : Int) => (((if (decide (x11 < (0 : Int))) = true then some true else some (decide (x11 > a1)))).bind fun (o15 : Bool) => (if o15 = true then some (.inr (.inr ())) else some (.inl (IntKind.i64.wrap (z0_0 + (1 : Int))))))) else some (.inr (.inl ())))
def F143_tree_one (n : Nat) (a0 : GNode) (a1 : Int) : Option (Bool) :=
  (if a0.Leaf = true then (((if (a0.Left == (0 : Int)) = true then (if (a0.Right == (0 : Int)) = true then ((F162_pairs_Check n ([(⟨a0.Key, a0.Value⟩ : GPair)] : List GPair)).bind fun (y4 : Int) => some (y4 == (0 : Int))) else some false) else some false)).bind fun (o6 : Bool) => some o6) else ((F145_tree_roads n a0).bind fun (y8 : (List Int)) => ((loopF (fun (z : Int) => F143_tree_one_s0 a1 y8 z) n (0 : Int)).bind (Sum.elim (fun (j18 : Unit) => (((if (decide (a0.Key = (List.replicate 32 (0 : Int)))) = true then (if (((a0.Value).length : Int) == (0 : Int)) = true then some (decide ((IntKind.i64.wrap (a0.Left + a0.Right)) > (0 : Int))) else some false) else some false)).bind fun (o22 : Bool) => some o22)) (fun (j18 : Unit) => some false)))))
theorem F143_tree_one_ok {n : Nat} {a0 : GNode} {a1 : Int} {r : Bool} (h : F143_tree_one n a0 a1 = some r) :
    ACall Tryz.prog GS 143 [.d (eGNode a0), .I a1] [] (fun r' hp' => r' = .B r ∧ hp' = []) := by
 refine acall_of_body mixed Tryz.func143 rfl (by rfl) ?_
 intro C hro hgl hb0
 unfold F143_tree_one at h
 refine aw_rs ?_
 refine .n (f_box 2 (by rfl) (by rfl)) rfl (.c rfl .nil) rfl ?_
 refine .a rfl ?_
 refine .nil (aq_then ?_)
 refine aw_seq ?_
 refine aw_rs ?_
 refine .v1 (f_fieldAddr (n := 0) (by rfl) fl72_0 (by decide)) rfl rfl ?_
 refine .l 2 (0 + 0) [0] (.d (eGNode a0)) (.B a0.Leaf) ty4 ?_
 refine .nil (aq_then ?_)
 refine aw_cond rfl (fun hc1 => ?_) (fun hc1 => ?_)
 ·replace h := ite_t hc1 h
  refine aw_seq ?_
  obtain ⟨o6, ho7, h⟩ := bind_some h
  refine aw_join (.normal) ⟨[(4, .B o6)], [], []⟩ ?_ ?_
  ·replace h := ho7
   refine aw_r ?_
   refine .v1 (f_fieldAddr (n := 34) (by rfl) fl72_3 (by decide)) rfl rfl ?_
   refine .l 2 (0 + 34) [3] (.d (eGNode a0)) (.I a0.Left) ty3 ?_
   refine .b rfl rfl rfl ?_
   refine .m rfl ?_
   rcases Bool.eq_false_or_eq_true (a0.Left == (0 : Int)) with hc2 | hc2
   ·replace h := ite_t hc2 h
    refine .g1 (f_fieldAddr (n := 35) (by rfl) fl72_4 (by decide)) rfl rfl rfl hc2 rfl ?_
    refine .gv (f_load (n := 0) (o := 2) (off := (0 + 35)) (p := [4]) (c := .d (eGNode a0)) (z := .I a0.Right) (by rfl) rfl ty3 (by rfl)) rfl rfl rfl hc2 (.c rfl .nil) (.cons rfl .nil) ?_
    refine .g2 (f_binI (by rfl) rfl (by rfl)) rfl rfl rfl hc2 rfl rfl ?_
    refine .v2 (f_pick_true (by rfl) hc2) rfl rfl rfl ?_
    refine .m rfl ?_
    rcases Bool.eq_false_or_eq_true (a0.Right == (0 : Int)) with hc3 | hc3
    ·replace h := ite_t hc3 h
     refine .g1 (f_fieldAddr (n := 1) (by rfl) fl72_1 (by decide)) rfl rfl rfl hc3 rfl ?_
     refine .gv (f_load (n := 0) (o := 2) (off := (0 + 1)) (p := [1]) (c := .d (eGNode a0)) (z := .d (eA46 a0.Key)) (by rfl) rfl ty47 (by rfl)) rfl rfl rfl hc3 (.c rfl .nil) (.cons rfl .nil) ?_
     refine .g1 (f_fieldAddr (n := 33) (by rfl) fl72_2 (by decide)) rfl rfl rfl hc3 rfl ?_
     refine .gv (f_load (n := 0) (o := 2) (off := (0 + 33)) (p := [2]) (c := .d (eGNode a0)) (z := .d (eL70 a0.Value)) (by rfl) rfl ty70 (by rfl)) rfl rfl rfl hc3 (.c rfl .nil) (.cons rfl .nil) ?_
     refine .g2 (f_build (xs := [(0, .d (eA46 a0.Key)), (1, .d (eL70 a0.Value))]) (z' := .d (eGPair (⟨a0.Key, a0.Value⟩ : GPair))) (by rfl) zrd170 ag170 rfl (by rfl) ⟨_, _, _, rfl, pl170_0, rfl, rfl, ⟨_, _, _, rfl, pl170_1, rfl, rfl, trivial⟩⟩ (by rfl) (by rfl)) rfl rfl rfl hc3 rfl rfl ?_
     refine .gw (f_buildS (xs := [(0, .d (eGPair (⟨a0.Key, a0.Value⟩ : GPair)))]) (z := (.st [(eA46 (List.replicate 32 (0 : Int))), (.val (.slice none 0 0))])) (zs := (([(⟨a0.Key, a0.Value⟩ : GPair)] : List GPair)).map eGPair) 1072 (by rfl) el91 zel91 (by rfl) (by decide) (by decide) rfl (by rfl) ⟨_, _, _, rfl, pl91_0, rfl, rfl, trivial⟩ (by rfl)) rfl rfl rfl hc3 (.c rfl .nil) .nil (.cons rfl .nil) ?_
     obtain ⟨y4, hy5, h⟩ := bind_some h
     refine .gw (f_callH0 (xs := [.slc 1072 0 ((([(⟨a0.Key, a0.Value⟩ : GPair)] : List GPair)).length) 33]) (r := .I y4) (hr := []) (fun i => i) [(1072, (.arr 33 ((([(⟨a0.Key, a0.Value⟩ : GPair)] : List GPair)).length) ((([(⟨a0.Key, a0.Value⟩ : GPair)] : List GPair)).map eGPair)))] hgl (by rfl) (cal_f en162) rfl (by rfl) (by rfl) (by rfl) (by rfl) (by rfl) (.cons (.whole (.head _)) .nil) rfl rfl (flat_val) trivial (F162_pairs_Check_ok hy5)) rfl rfl rfl hc3 (.c rfl .nil) (.cons rfl .nil) .nil ?_
     refine .g2 (f_binI (by rfl) rfl (by rfl)) rfl rfl rfl hc3 rfl rfl ?_
     refine .v2 (f_pick_true (by rfl) hc3) rfl rfl rfl ?_
     refine .a rfl ?_
     refine .nil ?_
     obtain rfl := Option.some.inj h
     refine aq_k hb0 (.k 4 rfl .nil) .nil ?_
     exact jq
    replace h := ite_f hc3 h
    refine .q rfl rfl rfl hc3 rfl ?_
    refine .q rfl rfl rfl hc3 rfl ?_
    refine .q rfl rfl rfl hc3 rfl ?_
    refine .q rfl rfl rfl hc3 rfl ?_
    refine .q rfl rfl rfl hc3 rfl ?_
    refine .q rfl rfl rfl hc3 rfl ?_
    refine .q rfl rfl rfl hc3 rfl ?_
    refine .q rfl rfl rfl hc3 rfl ?_
    refine .v2 (f_pick_false (by rfl) hc3) rfl rfl rfl ?_
    refine .a rfl ?_
    refine .nil ?_
    obtain rfl := Option.some.inj h
    refine aq_k hb0 (.k 4 rfl .nil) .nil ?_
    exact jq
   replace h := ite_f hc2 h
   refine .q rfl rfl rfl hc2 rfl ?_
   refine .q rfl rfl rfl hc2 rfl ?_
   refine .q rfl rfl rfl hc2 rfl ?_
   refine .v2 (f_pick_false (by rfl) hc2) rfl rfl rfl ?_
   refine .m rfl ?_
   refine .q rfl rfl rfl rfl rfl ?_
   refine .q rfl rfl rfl rfl rfl ?_
   refine .q rfl rfl rfl rfl rfl ?_
   refine .q rfl rfl rfl rfl rfl ?_
   refine .q rfl rfl rfl rfl rfl ?_
   refine .q rfl rfl rfl rfl rfl ?_
   refine .q rfl rfl rfl rfl rfl ?_
   refine .q rfl rfl rfl rfl rfl ?_
   refine .v2 (f_pick_false (by rfl) rfl) rfl rfl rfl ?_
   refine .a rfl ?_
   refine .nil ?_
   obtain rfl := Option.some.inj h
   refine aq_k hb0 (.k 4 rfl .nil) .nil ?_
   exact jq
  refine aq_then ?_
  refine aw_ret ?_
  refine aq_then_ret ?_
  obtain rfl := Option.some.inj h
  exact aq_finp hb0 rfl (.tmp rfl (by rfl) .nil) (by rfl) rfl ⟨rfl, rfl⟩
 replace h := ite_f hc1 h
 refine aw_skip ?_
 refine aq_then ?_
 refine aw_seq ?_
 refine aw_rs ?_
 refine .l 2 0 [] (.d (eGNode a0)) (.d (eGNode a0)) ty72 ?_
 obtain ⟨y8, hy9, h⟩ := bind_some h
 refine .v1 (f_callP hgl (by rfl) en145 rfl (by rfl) (by rfl) (by rfl) (F145_tree_roads_ok hy9)) rfl rfl ?_
 refine .m rfl ?_
 refine .nil (aq_then ?_)
 refine aw_block ?_
 refine aw_k hb0 (.k 1 rfl (.k 2 rfl (.k 28 rfl (.k 29 rfl .nil)))) (.k 2 rfl .nil) ?_
 obtain ⟨o18, ho19, h⟩ := bind_some h
 refine aw_loopX (σ := Int) (fun z => ⟨[(1, .I a1), (2, .ptr 2 0 []), (28, .d (eA201 y8)), (29, .I z)], [(2, .av (.d (eGNode a0)))], []⟩) (Sum.elim (fun _ => .exit 0) (fun _ => .ret)) (Sum.elim (fun j18 => ⟨[(2, .ptr 2 0 [])], [(2, .av (.d (eGNode a0)))], []⟩) (fun j18 => ⟨[(4, .B false)], [], []⟩)) ho19 (by intro b; rcases b with _ | _ <;> rfl) ?_ ?_
 ·clear h ho19
  intro z0_0 o h
  change F143_tree_one_s0 a1 y8 z0_0 = some o at h
  unfold F143_tree_one_s0 at h
  show AW _ _ _ ⟨[(1, .I a1), (2, .ptr 2 0 []), (28, .d (eA201 y8)), (29, .I z0_0)], [(2, .av (.d (eGNode a0)))], []⟩
  refine aw_rs ?_
  refine .b rfl rfl rfl ?_
  refine .nil (aq_then ?_)
  refine aw_seq ?_
  refine aw_cond rfl (fun hc10 => ?_) (fun hc10 => ?_)
  ·replace h := ite_t hc10 h
   refine aw_skip ?_
   refine aq_then ?_
   refine aw_seq ?_
   refine aw_block ?_
   refine aw_rs ?_
   obtain ⟨x11, hx12, h⟩ := bind_some h
   obtain ⟨hx13, hx12⟩ := rd_some hx12
   refine .v2 (f_indexV (z := (.val (.int .i64 x11))) (by rfl) uda201 ty3 hx13 (rd_map eI_i64 hx12)) rfl rfl rfl ?_
   refine .a rfl ?_
   refine .nil (aq_then ?_)
   refine aw_seq ?_
   obtain ⟨o15, ho17, h⟩ := bind_some h
   refine aw_join (.normal) ⟨[(1, .I a1), (2, .ptr 2 0 []), (28, .d (eA201 y8)), (29, .I z0_0), (38, .B o15)], [(2, .av (.d (eGNode a0)))], []⟩ ?_ ?_
   ·replace h := ho17
    refine aw_r ?_
    refine .m rfl ?_
    refine .b rfl rfl rfl ?_
    refine .m rfl ?_
    rcases Bool.eq_false_or_eq_true (decide (x11 < (0 : Int))) with hc14 | hc14
    ·replace h := ite_t hc14 h
     refine .q rfl rfl rfl hc14 rfl ?_
     refine .q rfl rfl rfl hc14 rfl ?_
     refine .q rfl rfl rfl hc14 rfl ?_
     refine .v2 (f_pick_true (by rfl) hc14) rfl rfl rfl ?_
     refine .nil ?_
     obtain rfl := Option.some.inj h
     refine aq_k hb0 (.k 1 rfl (.k 2 rfl (.k 28 rfl (.k 29 rfl (.k 38 rfl .nil))))) (.k 2 rfl .nil) ?_
     exact jq
    replace h := ite_f hc14 h
    refine .g1 (f_move (by rfl)) rfl rfl rfl hc14 rfl ?_
    refine .g1 (f_move (by rfl)) rfl rfl rfl hc14 rfl ?_
    refine .g2 (f_binI (by rfl) rfl (by rfl)) rfl rfl rfl hc14 rfl rfl ?_
    refine .v2 (f_pick_false (by rfl) hc14) rfl rfl rfl ?_
    refine .nil ?_
    obtain rfl := Option.some.inj h
    refine aq_k hb0 (.k 1 rfl (.k 2 rfl (.k 28 rfl (.k 29 rfl (.k 38 rfl .nil))))) (.k 2 rfl .nil) ?_
    exact jq
   refine aq_then ?_
   refine aw_cond rfl (fun hc16 => ?_) (fun hc16 => ?_)
   ·replace h := ite_t hc16 h
    refine aw_rs ?_
    refine .a rfl ?_
    refine .nil (aq_then ?_)
    refine aw_ret ?_
    refine aq_block_ret ?_
    refine aq_then_ret ?_
    obtain rfl := Option.some.inj h
    refine aq_k hb0 (.k 4 rfl .nil) .nil ?_
    exact jq
   replace h := ite_f hc16 h
   refine aw_skip ?_
   refine aq_block ?_
   refine aq_then ?_
   refine aw_r ?_
   refine .b rfl rfl rfl ?_
   refine .m rfl ?_
   refine .nil ?_
   obtain rfl := Option.some.inj h
   refine aq_k hb0 (.k 1 rfl (.k 2 rfl (.k 28 rfl (.k 29 rfl .nil)))) (.k 2 rfl .nil) ?_
   exact jq
  replace h := ite_f hc10 h
  refine aw_exit ?_
  refine aq_then_exit ?_
  obtain rfl := Option.some.inj h
  refine aq_k hb0 (.k 2 rfl .nil) (.k 2 rfl .nil) ?_
  exact jq
 rcases o18 with j18 | j18
 ·replace h := elim_l h
  refine aq_block_exit ?_
  refine aq_then ?_
  refine aw_seq ?_
  obtain ⟨o22, ho23, h⟩ := bind_some h
  refine aw_join (.normal) ⟨[(4, .B o22)], [], []⟩ ?_ ?_
  ·replace h := ho23
   refine aw_r ?_
   refine .v1 (f_fieldAddr (n := 1) (by rfl) fl72_1 (by decide)) rfl rfl ?_
   refine .l 2 (0 + 1) [1] (.d (eGNode a0)) (.d (eA46 a0.Key)) ty47 ?_
   refine .v (f_build (xs := []) (z' := .d (eA46 (List.replicate 32 (0 : Int)))) (by rfl) zr47 ag47 rfl (by rfl) trivial (by rfl) (by rfl)) rfl .nil .nil ?_
   refine .v2 (f_eqlT (by rfl) (fit47 _) (fit47 _) (by rfl) (by rfl) gd47 (eq_eA46 _ _)) rfl rfl rfl ?_
   refine .m rfl ?_
   rcases Bool.eq_false_or_eq_true (decide (a0.Key = (List.replicate 32 (0 : Int)))) with hc20 | hc20
   ·replace h := ite_t hc20 h
    refine .g1 (f_fieldAddr (n := 33) (by rfl) fl72_2 (by decide)) rfl rfl rfl hc20 rfl ?_
    refine .gv (f_load (n := 0) (o := 2) (off := (0 + 33)) (p := [2]) (c := .d (eGNode a0)) (z := .d (eL70 a0.Value)) (by rfl) rfl ty70 (by rfl)) rfl rfl rfl hc20 (.c rfl .nil) (.cons rfl .nil) ?_
    refine .g1 (f_lenD (n := (a0.Value).length) (by rfl) sl70 rfl (by simp)) rfl rfl rfl hc20 rfl ?_
    refine .g2 (f_binI (by rfl) rfl (by rfl)) rfl rfl rfl hc20 rfl rfl ?_
    refine .v2 (f_pick_true (by rfl) hc20) rfl rfl rfl ?_
    refine .m rfl ?_
    rcases Bool.eq_false_or_eq_true (((a0.Value).length : Int) == (0 : Int)) with hc21 | hc21
    ·replace h := ite_t hc21 h
     refine .g1 (f_fieldAddr (n := 34) (by rfl) fl72_3 (by decide)) rfl rfl rfl hc21 rfl ?_
     refine .gv (f_load (n := 0) (o := 2) (off := (0 + 34)) (p := [3]) (c := .d (eGNode a0)) (z := .I a0.Left) (by rfl) rfl ty3 (by rfl)) rfl rfl rfl hc21 (.c rfl .nil) (.cons rfl .nil) ?_
     refine .g1 (f_fieldAddr (n := 35) (by rfl) fl72_4 (by decide)) rfl rfl rfl hc21 rfl ?_
     refine .gv (f_load (n := 0) (o := 2) (off := (0 + 35)) (p := [4]) (c := .d (eGNode a0)) (z := .I a0.Right) (by rfl) rfl ty3 (by rfl)) rfl rfl rfl hc21 (.c rfl .nil) (.cons rfl .nil) ?_
     refine .g2 (f_binI (by rfl) rfl (by rfl)) rfl rfl rfl hc21 rfl rfl ?_
     refine .g2 (f_binI (by rfl) rfl (by rfl)) rfl rfl rfl hc21 rfl rfl ?_
     refine .v2 (f_pick_true (by rfl) hc21) rfl rfl rfl ?_
     refine .a rfl ?_
     refine .nil ?_
     obtain rfl := Option.some.inj h
     refine aq_k hb0 (.k 4 rfl .nil) .nil ?_
     exact jq
    replace h := ite_f hc21 h
    refine .q rfl rfl rfl hc21 rfl ?_
    refine .q rfl rfl rfl hc21 rfl ?_
    refine .q rfl rfl rfl hc21 rfl ?_
    refine .q rfl rfl rfl hc21 rfl ?_
    refine .q rfl rfl rfl hc21 rfl ?_
    refine .q rfl rfl rfl hc21 rfl ?_
    refine .v2 (f_pick_false (by rfl) hc21) rfl rfl rfl ?_
    refine .a rfl ?_
    refine .nil ?_
    obtain rfl := Option.some.inj h
    refine aq_k hb0 (.k 4 rfl .nil) .nil ?_
    exact jq
   replace h := ite_f hc20 h
   refine .q rfl rfl rfl hc20 rfl ?_
   refine .q rfl rfl rfl hc20 rfl ?_
   refine .q rfl rfl rfl hc20 rfl ?_
   refine .q rfl rfl rfl hc20 rfl ?_
   refine .v2 (f_pick_false (by rfl) hc20) rfl rfl rfl ?_
   refine .m rfl ?_
   refine .q rfl rfl rfl rfl rfl ?_
   refine .q rfl rfl rfl rfl rfl ?_
   refine .q rfl rfl rfl rfl rfl ?_
   refine .q rfl rfl rfl rfl rfl ?_
   refine .q rfl rfl rfl rfl rfl ?_
   refine .q rfl rfl rfl rfl rfl ?_
   refine .v2 (f_pick_false (by rfl) rfl) rfl rfl rfl ?_
   refine .a rfl ?_
   refine .nil ?_
   obtain rfl := Option.some.inj h
   refine aq_k hb0 (.k 4 rfl .nil) .nil ?_
   exact jq
  refine aq_then ?_
  refine aw_ret ?_
  obtain rfl := Option.some.inj h
  exact aq_finp hb0 rfl (.tmp rfl (by rfl) .nil) (by rfl) rfl ⟨rfl, rfl⟩
 replace h := elim_r h
 refine aq_block_ret ?_
 refine aq_then_ret ?_
 obtain rfl := Option.some.inj h
 exact aq_finp hb0 rfl (.tmp rfl (by rfl) .nil) (by rfl) rfl ⟨rfl, rfl⟩
def F113_num_Take_s0 (a0 : (List Int)) (a1 : Int) (z0_0 : Int) (z0_1 : Int) : Option ((Int × Int) ⊕ (Int)) :=
  (if (decide (z0_1 < ((((a0).take (a1).toNat)).length : Int))) = true then ((rd ((a0).take (a1).toNat) z0_1).bind fun (x7 : Int) => some (.inl ((bOr .u64 (shl .u64 z0_0 (8 : Int)) (IntKind.u64.wrap x7)), (IntKind.i64.wrap (z0_1 + (1 : Int)))))) else some (.inr z0_0))
def F113_num_Take (n : Nat) (a0 : (List Int)) (a1 : Int) : Option (Int × (List Int) × Int) :=
  (((if (decide (a1 < (1 : Int))) = true then some true else some (decide (a1 > (8 : Int))))).bind fun (o2 : Bool) => (if o2 = true then some ((0 : Int), [], (2 : Int)) else (if (decide (((a0).length : Int) < a1)) = true then some ((0 : Int), [], (10 : Int)) else (if 0 ≤ (0 : Int) ∧ (0 : Int) ≤ a1 ∧ a1 ≤ ((a0).length : Int) then ((loopF (fun (z : Int × Int) => F113_num_Take_s0 a0 a1 z.1 z.2) n ((0 : Int), (0 : Int))).bind fun (o10 : Int) => (if 0 ≤ a1 ∧ a1 ≤ ((a0).length : Int) ∧ ((a0).length : Int) ≤ ((a0).length : Int) then ((F112_Clone n ((a0).drop (a1).toNat)).bind fun (y13 : List Int) => some (o10, y13, (0 : Int))) else none)) else none))))
theorem F113_num_Take_ok {n : Nat} {a0 : (List Int)} {a1 : Int} {r : Int × (List Int) × Int} (h : F113_num_Take n a0 a1 = some r) :
    ACall Tryz.prog GS 113 [.d (eL70 a0), .I a1] [] (fun r' hp' => r' = .res [.U r.1, .d (eL70 r.2.1), .I r.2.2] ∧ hp' = []) := by
 refine acall_of_body mixed Tryz.func113 rfl (by rfl) ?_
 intro C hro hgl hb0
 unfold F113_num_Take at h
 refine aw_rs ?_
 refine .a rfl ?_
 refine .a rfl ?_
 refine .a rfl ?_
 refine .nil (aq_then ?_)
 refine aw_seq ?_
 refine aw_block ?_
 refine aw_seq ?_
 obtain ⟨o2, ho15, h⟩ := bind_some h
 refine aw_join (.normal) ⟨[(0, .d (eL70 a0)), (1, .I a1), (4, .U (0 : Int)), (9, .B o2)], [], []⟩ ?_ ?_
 ·replace h := ho15
  refine aw_r ?_
  refine .m rfl ?_
  refine .b rfl rfl rfl ?_
  refine .m rfl ?_
  rcases Bool.eq_false_or_eq_true (decide (a1 < (1 : Int))) with hc1 | hc1
  ·replace h := ite_t hc1 h
   refine .q rfl rfl rfl hc1 rfl ?_
   refine .q rfl rfl rfl hc1 rfl ?_
   refine .v2 (f_pick_true (by rfl) hc1) rfl rfl rfl ?_
   refine .a rfl ?_
   refine .nil ?_
   obtain rfl := Option.some.inj h
   refine aq_k hb0 (.k 0 rfl (.k 1 rfl (.k 4 rfl (.k 9 rfl .nil)))) .nil ?_
   exact jq
  replace h := ite_f hc1 h
  refine .g1 (f_move (by rfl)) rfl rfl rfl hc1 rfl ?_
  refine .g2 (f_binI (by rfl) rfl (by rfl)) rfl rfl rfl hc1 rfl rfl ?_
  refine .v2 (f_pick_false (by rfl) hc1) rfl rfl rfl ?_
  refine .a rfl ?_
  refine .nil ?_
  obtain rfl := Option.some.inj h
  refine aq_k hb0 (.k 0 rfl (.k 1 rfl (.k 4 rfl (.k 9 rfl .nil)))) .nil ?_
  exact jq
 refine aq_then ?_
 refine aw_cond rfl (fun hc3 => ?_) (fun hc3 => ?_)
 ·replace h := ite_t hc3 h
  refine aw_rs ?_
  refine .a rfl ?_
  refine .a rfl ?_
  refine .a rfl ?_
  refine .nil (aq_then ?_)
  refine aw_ret ?_
  refine aq_block_ret ?_
  refine aq_then_ret ?_
  obtain rfl := Option.some.inj h
  refine aq_freeze [] [(4, .U (0 : Int)), (5, .d (eL70 ([]))), (6, .I (2 : Int))] .nil (.keep rfl (.cons rfl .nil (.keep rfl .nil))) ?_
  exact aq_finp hb0 rfl (.tmp rfl (by rfl) (.tmp rfl (by rfl) (.tmp rfl (by rfl) .nil))) (by rfl) rfl ⟨rfl, rfl⟩
 replace h := ite_f hc3 h
 refine aw_rs ?_
 refine .m rfl ?_
 refine .v1 (f_lenD (n := (a0).length) (by rfl) sl70 rfl (by simp)) rfl rfl ?_
 refine .m rfl ?_
 refine .b rfl rfl rfl ?_
 refine .a rfl ?_
 refine .nil (aq_then ?_)
 refine aw_cond rfl (fun hc4 => ?_) (fun hc4 => ?_)
 ·replace h := ite_t hc4 h
  refine aw_rs ?_
  refine .a rfl ?_
  refine .a rfl ?_
  refine .a rfl ?_
  refine .nil (aq_then ?_)
  refine aw_ret ?_
  refine aq_block_ret ?_
  refine aq_then_ret ?_
  obtain rfl := Option.some.inj h
  refine aq_freeze [] [(4, .U (0 : Int)), (5, .d (eL70 ([]))), (6, .I (10 : Int))] .nil (.keep rfl (.cons rfl .nil (.keep rfl .nil))) ?_
  exact aq_finp hb0 rfl (.tmp rfl (by rfl) (.tmp rfl (by rfl) (.tmp rfl (by rfl) .nil))) (by rfl) rfl ⟨rfl, rfl⟩
 replace h := ite_f hc4 h
 refine aw_skip ?_
 refine aq_block ?_
 refine aq_then ?_
 refine aw_seq ?_
 refine aw_rs ?_
 refine .m rfl ?_
 refine .m rfl ?_
 refine .m rfl ?_
 obtain ⟨hb5, h⟩ := ifp h
 refine .v (f_sliceDM (k1 := .i64) (k2 := .i64) (k3 := .i64) (i := (0 : Int)) (j := a1) (xs := (a0).map eI_u8) (zs := ((a0).take (a1).toNat).map eI_u8) (by rfl) sl70 (by intro hx; first | rfl | cases hx) hb5.1 hb5.2.1 (by rw [List.length_map]; exact hb5.2.2) (by simp [List.map_take, List.map_drop])) rfl (.c rfl (.c rfl (.c rfl .nil))) .nil ?_
 refine .v1 (f_lenD (n := (((a0).take (a1).toNat)).length) (by rfl) sl70 rfl (by simp)) rfl rfl ?_
 refine .m rfl ?_
 refine .nil (aq_then ?_)
 refine aw_block ?_
 refine aw_k hb0 (.k 0 rfl (.k 1 rfl (.k 4 rfl (.k 24 rfl (.k 25 rfl (.k 26 rfl .nil)))))) .nil ?_
 obtain ⟨o10, ho11, h⟩ := bind_some h
 refine aw_loopX (σ := Int × Int) (fun z => ⟨[(0, .d (eL70 a0)), (1, .I a1), (4, .U z.1), (24, .d (eL70 ((a0).take (a1).toNat))), (25, .I ((((a0).take (a1).toNat)).length : Int)), (26, .I z.2)], [], []⟩) (fun _ => (.exit 1)) (fun (o10 : Int) => ⟨[(0, .d (eL70 a0)), (1, .I a1), (4, .U o10)], [], []⟩) ho11 (fun _ => rfl) ?_ ?_
 ·clear h ho11
  rintro ⟨z0_0, z0_1⟩ o h
  change F113_num_Take_s0 a0 a1 z0_0 z0_1 = some o at h
  unfold F113_num_Take_s0 at h
  show AW _ _ _ ⟨[(0, .d (eL70 a0)), (1, .I a1), (4, .U z0_0), (24, .d (eL70 ((a0).take (a1).toNat))), (25, .I ((((a0).take (a1).toNat)).length : Int)), (26, .I z0_1)], [], []⟩
  refine aw_rs ?_
  refine .b rfl rfl rfl ?_
  refine .nil (aq_then ?_)
  refine aw_seq ?_
  refine aw_cond rfl (fun hc6 => ?_) (fun hc6 => ?_)
  ·replace h := ite_t hc6 h
   refine aw_skip ?_
   refine aq_then ?_
   refine aw_seq ?_
   refine aw_block ?_
   refine aw_rs ?_
   obtain ⟨x7, hx8, h⟩ := bind_some h
   obtain ⟨hx9, hx8⟩ := rd_some hx8
   refine .v2 (f_indexS (by rfl) sl70 hx9 (rd_map _ hx8)) rfl rfl rfl ?_
   refine .v1 (f_loadR (z := (.val (.int .u8 x7))) (by rfl) ty5) rfl rfl ?_
   refine .a rfl ?_
   refine .nil (aq_then ?_)
   refine aw_r ?_
   refine .m rfl ?_
   refine .v2 (f_shift (by rfl) (shl_ok (by decide)) (by rfl)) rfl rfl rfl ?_
   refine .m rfl ?_
   refine .v1 (f_convI (by rfl) un5 un48) rfl rfl ?_
   refine .v2 (f_binI (r := .int .u64 (bOr .u64 (shl .u64 z0_0 (8 : Int)) (IntKind.u64.wrap x7))) (by rfl) rfl (by rfl)) rfl rfl rfl ?_
   refine .a rfl ?_
   refine .nil ?_
   refine aq_block ?_
   refine aq_then ?_
   refine aw_r ?_
   refine .b rfl rfl rfl ?_
   refine .m rfl ?_
   refine .nil ?_
   obtain rfl := Option.some.inj h
   refine aq_k hb0 (.k 0 rfl (.k 1 rfl (.k 4 rfl (.k 24 rfl (.k 25 rfl (.k 26 rfl .nil)))))) .nil ?_
   exact jq
  replace h := ite_f hc6 h
  refine aw_exit ?_
  refine aq_then_exit ?_
  obtain rfl := Option.some.inj h
  refine aq_k hb0 (.k 0 rfl (.k 1 rfl (.k 4 rfl .nil))) .nil ?_
  exact jq
 refine aq_block_exit ?_
 refine aq_then ?_
 refine aw_rs ?_
 refine .m rfl ?_
 refine .m rfl ?_
 refine .m rfl ?_
 obtain ⟨hb12, h⟩ := ifp h
 refine .v2 (f_sliceD (k1 := .i64) (k2 := .i64) (i := a1) (j := ((a0).length : Int)) (xs := (a0).map eI_u8) (zs := ((a0).drop (a1).toNat).map eI_u8) (by rfl) sl70 (by intro hx; first | rfl | cases hx) (by intro hx; first | (simp; done) | cases hx) hb12.1 hb12.2.1 (by rw [List.length_map]; exact hb12.2.2) (by simp [List.map_take, List.map_drop, List.take_of_length_le])) rfl rfl rfl ?_
 obtain ⟨y13, hy14, h⟩ := bind_some h
 refine .w (f_callG (xs := [.d (eL70 ((a0).drop (a1).toNat))]) (r := .slc 1073 0 ((y13).length) 1) (hw := [(1073, .av (.d (.arr 1 ((y13).length) ((y13).map eI_u8))))]) (fun i => bif Nat.beq i 0 then 1073 else i) [] hgl (by rfl) (cal_f en112) rfl (by rfl) (by rfl) (by rfl) (by rfl) (.cons (.same _) .nil) rfl rfl rfl rfl (F112_Clone_ok hy14)) rfl (.c rfl .nil) .nil (.cons rfl .nil) ?_
 refine .a rfl ?_
 refine .a rfl ?_
 refine .a rfl ?_
 refine .nil (aq_then ?_)
 refine aw_ret ?_
 obtain rfl := Option.some.inj h
 refine aq_freeze [(1073, (.arr 1 ((y13).length) ((y13).map eI_u8)))] [(4, .U o10), (5, .d (eL70 y13)), (6, .I (0 : Int))] (.cons rfl .nil) (.keep rfl (.cons rfl (.whole (.head _)) (.keep rfl .nil))) ?_
 exact aq_finp hb0 rfl (.tmp rfl (by rfl) (.tmp rfl (by rfl) (.tmp rfl (by rfl) .nil))) (by rfl) rfl ⟨rfl, rfl⟩
def F110_tree_Check_s0 (n : Nat) (a0 : GTree) (z0_0 : Int) : Option ((Int) ⊕ ((Unit) ⊕ (Unit))) :=
  (if (decide (z0_0 < ((a0.Nodes).length : Int))) = true then ((rd a0.Nodes z0_0).bind fun (x6 : GNode) => ((F143_tree_one n x6 z0_0).bind fun (y9 : Bool) => (if (!y9) = true then some (.inr (.inr ())) else some (.inl (IntKind.i64.wrap (z0_0 + (1 : Int))))))) else some (.inr (.inl ())))
def F110_tree_Check (n : Nat) (a0 : GTree) : Option (Int) :=
  (((if (decide (((a0.Nodes).length : Int) > (262144 : Int))) = true then some true else (if (decide (a0.Root < (0 : Int))) = true then some true else some (decide (a0.Root > ((a0.Nodes).length : Int)))))).bind fun (o3 : Bool) => (if o3 = true then some (8 : Int) else ((loopF (fun (z : Int) => F110_tree_Check_s0 n a0 z) n (0 : Int)).bind (Sum.elim (fun (j12 : Unit) => ((F144_tree_right n a0 a0.Root (0 : Int) (List.replicate 32 (0 : Int))).bind fun (y14 : Bool × Bool) => (if (!y14.1) = true then some (8 : Int) else some (0 : Int)))) (fun (j12 : Unit) => some (8 : Int))))))
theorem F110_tree_Check_ok {n : Nat} {a0 : GTree} {r : Int} (h : F110_tree_Check n a0 = some r) :
    ACall Tryz.prog GS 110 [.d (eGTree a0)] [] (fun r' hp' => r' = .I r ∧ hp' = []) := by
 refine acall_of_body mixed Tryz.func110 rfl (by rfl) ?_
 intro C hro hgl hb0
 unfold F110_tree_Check at h
 refine aw_rs ?_
 refine .n (f_box 1 (by rfl) (by rfl)) rfl (.c rfl .nil) rfl ?_
 refine .a rfl ?_
 refine .nil (aq_then ?_)
 refine aw_seq ?_
 refine aw_seq ?_
 obtain ⟨o3, ho17, h⟩ := bind_some h
 refine aw_join (.normal) ⟨[(1, .ptr 1 0 []), (23, .B o3)], [(1, .av (.d (eGTree a0)))], []⟩ ?_ ?_
 ·replace h := ho17
  refine aw_r ?_
  refine .v1 (f_fieldAddr (n := 0) (by rfl) fl27_0 (by decide)) rfl rfl ?_
  refine .l 1 (0 + 0) [0] (.d (eGTree a0)) (.d (eL25 a0.Nodes)) ty25 ?_
  refine .v1 (f_lenD (n := (a0.Nodes).length) (by rfl) sl25 rfl (by simp)) rfl rfl ?_
  refine .b rfl rfl rfl ?_
  refine .m rfl ?_
  rcases Bool.eq_false_or_eq_true (decide (((a0.Nodes).length : Int) > (262144 : Int))) with hc1 | hc1
  ·replace h := ite_t hc1 h
   refine .q rfl rfl rfl hc1 rfl ?_
   refine .q rfl rfl rfl hc1 rfl ?_
   refine .q rfl rfl rfl hc1 rfl ?_
   refine .v2 (f_pick_true (by rfl) hc1) rfl rfl rfl ?_
   refine .m rfl ?_
   refine .q rfl rfl rfl rfl rfl ?_
   refine .q rfl rfl rfl rfl rfl ?_
   refine .q rfl rfl rfl rfl rfl ?_
   refine .q rfl rfl rfl rfl rfl ?_
   refine .q rfl rfl rfl rfl rfl ?_
   refine .q rfl rfl rfl rfl rfl ?_
   refine .v2 (f_pick_true (by rfl) rfl) rfl rfl rfl ?_
   refine .nil ?_
   obtain rfl := Option.some.inj h
   refine aq_k hb0 (.k 1 rfl (.k 23 rfl .nil)) (.k 1 rfl .nil) ?_
   exact jq
  replace h := ite_f hc1 h
  refine .g1 (f_fieldAddr (n := 1) (by rfl) fl27_1 (by decide)) rfl rfl rfl hc1 rfl ?_
  refine .gv (f_load (n := 0) (o := 1) (off := (0 + 1)) (p := [1]) (c := .d (eGTree a0)) (z := .I a0.Root) (by rfl) rfl ty3 (by rfl)) rfl rfl rfl hc1 (.c rfl .nil) (.cons rfl .nil) ?_
  refine .g2 (f_binI (by rfl) rfl (by rfl)) rfl rfl rfl hc1 rfl rfl ?_
  refine .v2 (f_pick_false (by rfl) hc1) rfl rfl rfl ?_
  refine .m rfl ?_
  rcases Bool.eq_false_or_eq_true (decide (a0.Root < (0 : Int))) with hc2 | hc2
  ·replace h := ite_t hc2 h
   refine .q rfl rfl rfl hc2 rfl ?_
   refine .q rfl rfl rfl hc2 rfl ?_
   refine .q rfl rfl rfl hc2 rfl ?_
   refine .q rfl rfl rfl hc2 rfl ?_
   refine .q rfl rfl rfl hc2 rfl ?_
   refine .q rfl rfl rfl hc2 rfl ?_
   refine .v2 (f_pick_true (by rfl) hc2) rfl rfl rfl ?_
   refine .nil ?_
   obtain rfl := Option.some.inj h
   refine aq_k hb0 (.k 1 rfl (.k 23 rfl .nil)) (.k 1 rfl .nil) ?_
   exact jq
  replace h := ite_f hc2 h
  refine .g1 (f_fieldAddr (n := 1) (by rfl) fl27_1 (by decide)) rfl rfl rfl hc2 rfl ?_
  refine .gv (f_load (n := 0) (o := 1) (off := (0 + 1)) (p := [1]) (c := .d (eGTree a0)) (z := .I a0.Root) (by rfl) rfl ty3 (by rfl)) rfl rfl rfl hc2 (.c rfl .nil) (.cons rfl .nil) ?_
  refine .g1 (f_fieldAddr (n := 0) (by rfl) fl27_0 (by decide)) rfl rfl rfl hc2 rfl ?_
  refine .gv (f_load (n := 0) (o := 1) (off := (0 + 0)) (p := [0]) (c := .d (eGTree a0)) (z := .d (eL25 a0.Nodes)) (by rfl) rfl ty25 (by rfl)) rfl rfl rfl hc2 (.c rfl .nil) (.cons rfl .nil) ?_
  refine .g1 (f_lenD (n := (a0.Nodes).length) (by rfl) sl25 rfl (by simp)) rfl rfl rfl hc2 rfl ?_
  refine .g2 (f_binI (by rfl) rfl (by rfl)) rfl rfl rfl hc2 rfl rfl ?_
  refine .v2 (f_pick_false (by rfl) hc2) rfl rfl rfl ?_
  refine .nil ?_
  obtain rfl := Option.some.inj h
  refine aq_k hb0 (.k 1 rfl (.k 23 rfl .nil)) (.k 1 rfl .nil) ?_
  exact jq
 refine aq_then ?_
 refine aw_cond rfl (fun hc4 => ?_) (fun hc4 => ?_)
 ·replace h := ite_t hc4 h
  refine aw_rs ?_
  refine .a rfl ?_
  refine .nil (aq_then ?_)
  refine aw_ret ?_
  refine aq_then_ret ?_
  obtain rfl := Option.some.inj h
  exact aq_finp hb0 rfl (.tmp rfl (by rfl) .nil) (by rfl) rfl ⟨rfl, rfl⟩
 replace h := ite_f hc4 h
 refine aw_skip ?_
 refine aq_then ?_
 refine aw_seq ?_
 refine aw_rs ?_
 refine .v1 (f_fieldAddr (n := 0) (by rfl) fl27_0 (by decide)) rfl rfl ?_
 refine .l 1 (0 + 0) [0] (.d (eGTree a0)) (.d (eL25 a0.Nodes)) ty25 ?_
 refine .v1 (f_lenD (n := (a0.Nodes).length) (by rfl) sl25 rfl (by simp)) rfl rfl ?_
 refine .m rfl ?_
 refine .nil (aq_then ?_)
 refine aw_block ?_
 refine aw_k hb0 (.k 1 rfl (.k 25 rfl (.k 26 rfl (.k 27 rfl .nil)))) (.k 1 rfl .nil) ?_
 obtain ⟨o12, ho13, h⟩ := bind_some h
 refine aw_loopX (σ := Int) (fun z => ⟨[(1, .ptr 1 0 []), (25, .d (eL25 a0.Nodes)), (26, .I ((a0.Nodes).length : Int)), (27, .I z)], [(1, .av (.d (eGTree a0)))], []⟩) (Sum.elim (fun _ => .exit 0) (fun _ => .ret)) (Sum.elim (fun j12 => ⟨[(1, .ptr 1 0 [])], [(1, .av (.d (eGTree a0)))], []⟩) (fun j12 => ⟨[(2, .I (8 : Int))], [], []⟩)) ho13 (by intro b; rcases b with _ | _ <;> rfl) ?_ ?_
 ·clear h ho13
  intro z0_0 o h
  change F110_tree_Check_s0 n a0 z0_0 = some o at h
  unfold F110_tree_Check_s0 at h
  show AW _ _ _ ⟨[(1, .ptr 1 0 []), (25, .d (eL25 a0.Nodes)), (26, .I ((a0.Nodes).length : Int)), (27, .I z0_0)], [(1, .av (.d (eGTree a0)))], []⟩
  refine aw_rs ?_
  refine .b rfl rfl rfl ?_
  refine .nil (aq_then ?_)
  refine aw_seq ?_
  refine aw_cond rfl (fun hc5 => ?_) (fun hc5 => ?_)
  ·replace h := ite_t hc5 h
   refine aw_skip ?_
   refine aq_then ?_
   refine aw_seq ?_
   refine aw_block ?_
   refine aw_rs ?_
   refine .m rfl ?_
   obtain ⟨x6, hx7, h⟩ := bind_some h
   obtain ⟨hx8, hx7⟩ := rd_some hx7
   refine .v2 (f_indexS (by rfl) sl25 hx8 (rd_map _ hx7)) rfl rfl rfl ?_
   refine .v1 (f_loadR (z := (eGNode x6)) (by rfl) ty72) rfl rfl ?_
   refine .n (f_alloc 4 (by rfl) zrv72) rfl .nil rfl ?_
   refine .a rfl ?_
   refine .s (f_store (n := 0) (o := 4) (off := 0) (p := []) (c := .st [.B false, .d (eA46 (List.replicate 32 (0 : Int))), .N, .I (0 : Int), .I (0 : Int)]) (old := .st [.B false, .d (eA46 (List.replicate 32 (0 : Int))), .N, .I (0 : Int), .I (0 : Int)]) (z := .d (eGNode x6)) (c' := .d (eGNode x6)) rfl rfl (by rfl) ty72 (by rfl)) rfl (.c rfl (.c rfl .nil)) (.cons rfl .nil) ?_
   refine .z ?_
   refine .l 4 0 [] (.d (eGNode x6)) (.d (eGNode x6)) ty72 ?_
   refine .m rfl ?_
   obtain ⟨y9, hy10, h⟩ := bind_some h
   refine .v2 (f_callP hgl (by rfl) en143 rfl (by rfl) (by rfl) (by rfl) (F143_tree_one_ok hy10)) rfl rfl rfl ?_
   refine .v1 (f_not (by rfl)) rfl rfl ?_
   refine .nil (aq_then ?_)
   refine aw_cond rfl (fun hc11 => ?_) (fun hc11 => ?_)
   ·replace h := ite_t hc11 h
    refine aw_rs ?_
    refine .a rfl ?_
    refine .nil (aq_then ?_)
    refine aw_ret ?_
    refine aq_block_ret ?_
    refine aq_then_ret ?_
    obtain rfl := Option.some.inj h
    refine aq_k hb0 (.k 2 rfl .nil) .nil ?_
    exact jq
   replace h := ite_f hc11 h
   refine aw_skip ?_
   refine aq_block ?_
   refine aq_then ?_
   refine aw_r ?_
   refine .b rfl rfl rfl ?_
   refine .m rfl ?_
   refine .nil ?_
   obtain rfl := Option.some.inj h
   refine aq_k hb0 (.k 1 rfl (.k 25 rfl (.k 26 rfl (.k 27 rfl .nil)))) (.k 1 rfl .nil) ?_
   exact jq
  replace h := ite_f hc5 h
  refine aw_exit ?_
  refine aq_then_exit ?_
  obtain rfl := Option.some.inj h
  refine aq_k hb0 (.k 1 rfl .nil) (.k 1 rfl .nil) ?_
  exact jq
 rcases o12 with j12 | j12
 ·replace h := elim_l h
  refine aq_block_exit ?_
  refine aq_then ?_
  refine aw_seq ?_
  refine aw_rs ?_
  refine .l 1 0 [] (.d (eGTree a0)) (.d (eGTree a0)) ty27 ?_
  refine .v1 (f_fieldAddr (n := 1) (by rfl) fl27_1 (by decide)) rfl rfl ?_
  refine .l 1 (0 + 1) [1] (.d (eGTree a0)) (.I a0.Root) ty3 ?_
  refine .v (f_build (xs := []) (z' := .d (eA46 (List.replicate 32 (0 : Int)))) (by rfl) zr47 ag47 rfl (by rfl) trivial (by rfl) (by rfl)) rfl .nil .nil ?_
  obtain ⟨y14, hy15, h⟩ := bind_some h
  refine .v (f_callP hgl (by rfl) en144 rfl (by rfl) (by rfl) (by rfl) (F144_tree_right_ok hy15)) rfl (.c rfl (.c rfl (.c rfl (.c rfl .nil)))) .nil ?_
  refine .m rfl ?_
  refine .v1 (f_extract (by rfl) rfl) rfl rfl ?_
  refine .v1 (f_extract (by rfl) rfl) rfl rfl ?_
  refine .a rfl ?_
  refine .a rfl ?_
  refine .z ?_
  refine .m rfl ?_
  refine .v1 (f_not (by rfl)) rfl rfl ?_
  refine .nil (aq_then ?_)
  refine aw_cond rfl (fun hc16 => ?_) (fun hc16 => ?_)
  ·replace h := ite_t hc16 h
   refine aw_rs ?_
   refine .a rfl ?_
   refine .nil (aq_then ?_)
   refine aw_ret ?_
   refine aq_then_ret ?_
   obtain rfl := Option.some.inj h
   exact aq_finp hb0 rfl (.tmp rfl (by rfl) .nil) (by rfl) rfl ⟨rfl, rfl⟩
  replace h := ite_f hc16 h
  refine aw_skip ?_
  refine aq_then ?_
  refine aw_rs ?_
  refine .a rfl ?_
  refine .nil (aq_then ?_)
  refine aw_ret ?_
  obtain rfl := Option.some.inj h
  exact aq_finp hb0 rfl (.tmp rfl (by rfl) .nil) (by rfl) rfl ⟨rfl, rfl⟩
 replace h := elim_r h
 refine aq_block_ret ?_
 refine aq_then_ret ?_
 obtain rfl := Option.some.inj h
 exact aq_finp hb0 rfl (.tmp rfl (by rfl) .nil) (by rfl) rfl ⟨rfl, rfl⟩
def F141_api_Pair_bfd (n : Nat) (a0 : Int) (a1 : GTree) : Option ((List GPair)) :=
  ((F160_all n a0 a1).bind fun (y1 : List GPair) => some y1)
theorem F141_api_Pair_bfd_ok {n : Nat} {a0 : Int} {a1 : GTree} {r : (List GPair)} (h : F141_api_Pair_bfd n a0 a1 = some r) :
    ACall Tryz.prog GS 141 [.fn (.func 161) [] [.ptr 0 0 [], .ptr 1 0 []]] [(0, .av (.I a0)), (1, .av (.d (eGTree a1)))] (fun r' hp' => r' = .d (eL91 r) ∧ hp' = [(0, .av (.I a0)), (1, .av (.d (eGTree a1)))]) := by
 refine acall_of_body mixed Tryz.func141 rfl (by rfl) ?_
 intro C hro hgl hb0
 unfold F141_api_Pair_bfd at h
 refine aw_rs ?_
 refine .a rfl ?_
 refine .z ?_
 refine .m rfl ?_
 obtain ⟨y1, hy2, h⟩ := bind_some h
 refine .w (f_callG0 (xs := [.N, .fn (.func 161) [] [.ptr 0 0 [], .ptr 1 0 []]]) (r := .d (eL91 y1)) (fun i => i) [] hgl (by rfl) (cal_f en160) rfl (by rfl) (by rfl) (by rfl) (by rfl) (.cons (.same _) (.cons (.same _) .nil)) rfl rfl (F160_all_ok hy2)) rfl (.c rfl (.c rfl .nil)) (.cons rfl (.cons rfl .nil)) .nil ?_
 refine .a rfl ?_
 refine .nil (aq_then ?_)
 refine aw_ret ?_
 obtain rfl := Option.some.inj h
 refine aq_k hb0 (.k 2 rfl .nil) (.k 0 rfl (.k 1 rfl .nil)) ?_
 exact aq_fin1 (.tmp rfl (by rfl) .nil) rfl ⟨rfl, rfl⟩
def F109_tree_Pairs (n : Nat) (a0 : GTree) : Option ((List GPair) × Int) :=
  ((F110_tree_Check n a0).bind fun (y1 : Int) => (if (y1 != (0 : Int)) = true then some ([], y1) else ((F142_tree_each n a0 a0.Root).bind fun (y4 : Int × GTree) => ((F141_api_Pair_bfd n y4.1 y4.2).bind fun (y6 : (List GPair)) => some (y6, (0 : Int))))))
theorem F109_tree_Pairs_ok {n : Nat} {a0 : GTree} {r : (List GPair) × Int} (h : F109_tree_Pairs n a0 = some r) :
    ACall Tryz.prog GS 109 [.d (eGTree a0)] [] (fun r' hp' => r' = .res [.d (eL91 r.1), .I r.2] ∧ hp' = []) := by
 refine acall_of_body mixed Tryz.func109 rfl (by rfl) ?_
 intro C hro hgl hb0
 unfold F109_tree_Pairs at h
 refine aw_rs ?_
 refine .n (f_box 1 (by rfl) (by rfl)) rfl (.c rfl .nil) rfl ?_
 refine .a rfl ?_
 refine .a rfl ?_
 refine .nil (aq_then ?_)
 refine aw_seq ?_
 refine aw_rs ?_
 refine .l 1 0 [] (.d (eGTree a0)) (.d (eGTree a0)) ty27 ?_
 obtain ⟨y1, hy2, h⟩ := bind_some h
 refine .v1 (f_callP hgl (by rfl) en110 rfl (by rfl) (by rfl) (by rfl) (F110_tree_Check_ok hy2)) rfl rfl ?_
 refine .a rfl ?_
 refine .z ?_
 refine .m rfl ?_
 refine .b rfl rfl rfl ?_
 refine .nil (aq_then ?_)
 refine aw_cond rfl (fun hc3 => ?_) (fun hc3 => ?_)
 ·replace h := ite_t hc3 h
  refine aw_rs ?_
  refine .m rfl ?_
  refine .a rfl ?_
  refine .a rfl ?_
  refine .nil (aq_then ?_)
  refine aw_ret ?_
  refine aq_then_ret ?_
  obtain rfl := Option.some.inj h
  refine aq_freeze [] [(2, .d (eL91 ([]))), (3, .I y1)] .nil (.cons rfl .nil (.keep rfl .nil)) ?_
  exact aq_finp hb0 rfl (.tmp rfl (by rfl) (.tmp rfl (by rfl) .nil)) (by rfl) rfl ⟨rfl, rfl⟩
 replace h := ite_f hc3 h
 refine aw_skip ?_
 refine aq_then ?_
 refine aw_rs ?_
 refine .l 1 0 [] (.d (eGTree a0)) (.d (eGTree a0)) ty27 ?_
 refine .v1 (f_fieldAddr (n := 1) (by rfl) fl27_1 (by decide)) rfl rfl ?_
 refine .l 1 (0 + 1) [1] (.d (eGTree a0)) (.I a0.Root) ty3 ?_
 obtain ⟨y4, hy5, h⟩ := bind_some h
 refine .w (f_callG (xs := [.d (eGTree a0), .I a0.Root]) (r := .fn (.func 161) [] [.ptr 1074 0 [], .ptr 1075 0 []]) (hw := [(1074, .av (.I y4.1)), (1075, .av (.d (eGTree y4.2)))]) (fun i => bif Nat.beq i 2 then 1075 else (bif Nat.beq i 3 then 1074 else i)) [] hgl (by rfl) (cal_f en142) rfl (by rfl) (by rfl) (by rfl) (by rfl) (.cons (.same _) (.cons (.same _) .nil)) rfl rfl rfl rfl (F142_tree_each_ok hy5)) rfl (.c rfl (.c rfl .nil)) .nil (.cons rfl (.cons rfl .nil)) ?_
 obtain ⟨y6, hy7, h⟩ := bind_some h
 refine .w (f_callG0 (xs := [.fn (.func 161) [] [.ptr 1074 0 [], .ptr 1075 0 []]]) (r := .d (eL91 y6)) (fun i => bif Nat.beq i 1 then 1075 else (bif Nat.beq i 0 then 1074 else i)) [] hgl (by rfl) (cal_f en141) rfl (by rfl) (by rfl) (by rfl) (by rfl) (.cons (.same _) .nil) rfl rfl (F141_api_Pair_bfd_ok hy7)) rfl (.c rfl .nil) (.cons rfl (.cons rfl .nil)) .nil ?_
 refine .a rfl ?_
 refine .a rfl ?_
 refine .nil (aq_then ?_)
 refine aw_ret ?_
 obtain rfl := Option.some.inj h
 exact aq_finp hb0 rfl (.tmp rfl (by rfl) (.tmp rfl (by rfl) .nil)) (by rfl) rfl ⟨rfl, rfl⟩
def F69_queue_Twin (n : Nat) (a0 : GLine) : Option ((List Int) × List GTx) :=
  ((F74_Clone n a0.Txs).bind fun (y1 : List GTx) => some (a0.From, y1))
theorem F69_queue_Twin_ok {n : Nat} {a0 : GLine} {r : (List Int) × List GTx} (h : F69_queue_Twin n a0 = some r) :
    ACall Tryz.prog GS 69 [.d (eGLine a0)] [] (fun r' hp' => r' = .st [.d (eA46 r.1), .slc 1077 0 ((r.2).length) 99] ∧ hp' = [(2, .av (.st [.d (eA46 r.1), .slc 1077 0 ((r.2).length) 99])), (1077, .av (.d (.arr 99 ((r.2).length) ((r.2).map eGTx))))]) := by
 refine acall_of_body mixed Tryz.func69 rfl (by rfl) ?_
 intro C hro hgl hb0
 unfold F69_queue_Twin at h
 refine aw_rs ?_
 refine .n (f_box 1 (by rfl) (by rfl)) rfl (.c rfl .nil) rfl ?_
 refine .n (f_alloc 2 (by rfl) zrv69) rfl .nil rfl ?_
 refine .nil (aq_then ?_)
 refine aw_rds ?_
 refine .v1 (f_fieldAddr (n := 0) (by rfl) fl69_0 (by decide)) rfl rfl ?_
 refine .v (f_load (n := 0) (o := 1) (off := (0 + 0)) (p := [0]) (c := .d (eGLine a0)) (z := .d (eA46 a0.From)) (by rfl) rfl ty47 (by rfl)) rfl (.c rfl .nil) (.cons rfl .nil) ?_
 refine .v1 (f_fieldAddr (n := 32) (by rfl) fl69_1 (by decide)) rfl rfl ?_
 refine .v (f_load (n := 0) (o := 1) (off := (0 + 32)) (p := [1]) (c := .d (eGLine a0)) (z := .d (eL28 a0.Txs)) (by rfl) rfl ty28 (by rfl)) rfl (.c rfl .nil) (.cons rfl .nil) ?_
 obtain ⟨y1, hy2, h⟩ := bind_some h
 refine .w (f_callG (xs := [.d (eL28 a0.Txs)]) (r := .slc 1077 0 ((y1).length) 99) (hw := [(1077, .av (.d (.arr 99 ((y1).length) ((y1).map eGTx))))]) (fun i => bif Nat.beq i 0 then 1077 else i) [] hgl (by rfl) (cal_f en74) rfl (by rfl) (by rfl) (by rfl) (by rfl) (.cons (.same _) .nil) rfl rfl rfl rfl (F74_Clone_ok hy2)) rfl (.c rfl .nil) .nil (.cons rfl .nil) ?_
 refine .v2 (f_build (xs := [(0, .d (eA46 a0.From)), (1, .slc 1077 0 ((y1).length) 99)]) (z' := .st [.d (eA46 a0.From), .slc 1077 0 ((y1).length) 99]) (by rfl) zrv69 ag69 rfl (by rfl) ⟨_, _, _, rfl, pl69_0, rfl, rfl, ⟨_, _, _, rfl, pl69_1, rfl, rfl, trivial⟩⟩ (by rfl) (by rfl)) rfl rfl rfl ?_
 refine .s (f_store (n := 0) (o := 2) (off := 0) (p := []) (c := .st [.d (eA46 (List.replicate 32 (0 : Int))), .N]) (old := .st [.d (eA46 (List.replicate 32 (0 : Int))), .N]) (z := .st [.d (eA46 a0.From), .slc 1077 0 ((y1).length) 99]) (c' := .st [.d (eA46 a0.From), .slc 1077 0 ((y1).length) 99]) rfl rfl (by rfl) ty69 (by rfl)) rfl (.c rfl (.c rfl .nil)) (.cons rfl .nil) ?_
 refine .nil (by kernel_rfl) ?_
 refine aw_ret ?_
 obtain rfl := Option.some.inj h
 refine aq_k hb0 (.k 2 rfl .nil) (.k 2 rfl (.k 1077 rfl .nil)) ?_
 exact aq_fin1 (.cell rfl rfl ty69 (by rfl) .nil) rfl ⟨rfl, rfl⟩
def F32_shard_Twin_s0 (n : Nat) (y1 : List GLine) (z0_0 : Int) (z0_1 : List GLine) : Option ((Int × List GLine) ⊕ (List GLine)) :=
  (if (decide (z0_0 < ((y1).length : Int))) = true then ((rd z0_1 z0_0).bind fun (x4 : GLine) => ((F69_queue_Twin n x4).bind fun (y7 : (List Int) × List GTx) => ((rd z0_1 z0_0).bind fun (x9 : GLine) => some (.inl ((IntKind.i64.wrap (z0_0 + (1 : Int))), (z0_1.set (0 + (z0_0).toNat) (⟨y7.1, y7.2⟩ : GLine))))))) else some (.inr z0_1))
def F32_shard_Twin (n : Nat) (a0 : GShard) : Option (List GLine) :=
  ((F68_Clone n a0.Lines).bind fun (y1 : List GLine) => ((loopF (fun (z : Int × List GLine) => F32_shard_Twin_s0 n y1 z.1 z.2) n ((0 : Int), y1)).bind fun (o12 : List GLine) => some o12))
theorem F32_shard_Twin_ok {n : Nat} {a0 : GShard} {r : List GLine} (h : F32_shard_Twin n a0 = some r) :
    ACall Tryz.prog GS 32 [.d (eGShard a0)] [] (fun r' hp' => r' = .st [.slc 1076 0 ((r).length) 33] ∧ hp' = [(2, .av (.st [.slc 1076 0 ((r).length) 33])), (1076, .av (.d (.arr 33 ((r).length) ((r).map eGLine))))]) := by
 refine acall_of_body mixed Tryz.func32 rfl (by rfl) ?_
 intro C hro hgl hb0
 unfold F32_shard_Twin at h
 refine aw_rs ?_
 refine .n (f_box 1 (by rfl) (by rfl)) rfl (.c rfl .nil) rfl ?_
 refine .n (f_alloc 2 (by rfl) zrv24) rfl .nil rfl ?_
 refine .z ?_
 refine .v1 (f_fieldAddr (n := 0) (by rfl) fl24_0 (by decide)) rfl rfl ?_
 refine .l 1 (0 + 0) [0] (.d (eGShard a0)) (.d (eL22 a0.Lines)) ty22 ?_
 obtain ⟨y1, hy2, h⟩ := bind_some h
 refine .w (f_callG (xs := [.d (eL22 a0.Lines)]) (r := .slc 1076 0 ((y1).length) 33) (hw := [(1076, .av (.d (.arr 33 ((y1).length) ((y1).map eGLine))))]) (fun i => bif Nat.beq i 0 then 1076 else i) [] hgl (by rfl) (cal_f en68) rfl (by rfl) (by rfl) (by rfl) (by rfl) (.cons (.same _) .nil) rfl rfl rfl rfl (F68_Clone_ok hy2)) rfl (.c rfl .nil) .nil (.cons rfl .nil) ?_
 refine .v1 (f_build (xs := [(0, .slc 1076 0 ((y1).length) 33)]) (z' := .st [.slc 1076 0 ((y1).length) 33]) (by rfl) zrv24 ag24 rfl (by rfl) ⟨_, _, _, rfl, pl24_0, rfl, rfl, trivial⟩ (by rfl) (by rfl)) rfl rfl ?_
 refine .n (f_alloc 3 (by rfl) zrv24) rfl .nil rfl ?_
 refine .s (f_store (n := 0) (o := 3) (off := 0) (p := []) (c := .st [.N]) (old := .st [.N]) (z := .st [.slc 1076 0 ((y1).length) 33]) (c' := .st [.slc 1076 0 ((y1).length) 33]) rfl rfl (by rfl) ty24 (by rfl)) rfl (.c rfl (.c rfl .nil)) (.cons rfl .nil) ?_
 refine .nil (aq_then ?_)
 refine aw_seq ?_
 refine aw_rs ?_
 refine .v1 (f_fieldAddr (n := 0) (by rfl) fl24_0 (by decide)) rfl rfl ?_
 refine .l 3 (0 + 0) [0] (.st [.slc 1076 0 ((y1).length) 33]) (.slc 1076 0 ((y1).length) 33) ty22 ?_
 refine .v1 (f_lenO (by rfl) sl22 rfl) rfl rfl ?_
 refine .m rfl ?_
 refine .nil (aq_then ?_)
 refine aw_block ?_
 refine aw_k hb0 (.k 2 rfl (.k 3 rfl (.k 11 rfl (.k 12 rfl .nil)))) (.k 2 rfl (.k 3 rfl (.k 1076 rfl .nil))) ?_
 obtain ⟨o12, ho13, h⟩ := bind_some h
 refine aw_loopX (σ := Int × List GLine) (fun z => ⟨[(2, .ptr 2 0 []), (3, .ptr 3 0 []), (11, .I ((y1).length : Int)), (12, .I z.1)], [(2, .av (.st [.N])), (3, .av (.st [.slc 1076 0 ((z.2).length) 33])), (1076, .av (.d (.arr 33 ((z.2).length) ((z.2).map eGLine))))], []⟩) (fun _ => (.exit 0)) (fun (o12 : List GLine) => ⟨[(2, .ptr 2 0 []), (3, .ptr 3 0 [])], [(2, .av (.st [.N])), (3, .av (.st [.slc 1076 0 ((o12).length) 33])), (1076, .av (.d (.arr 33 ((o12).length) ((o12).map eGLine))))], []⟩) ho13 (fun _ => rfl) ?_ ?_
 ·clear h ho13
  rintro ⟨z0_0, z0_1⟩ o h
  change F32_shard_Twin_s0 n y1 z0_0 z0_1 = some o at h
  unfold F32_shard_Twin_s0 at h
  show AW _ _ _ ⟨[(2, .ptr 2 0 []), (3, .ptr 3 0 []), (11, .I ((y1).length : Int)), (12, .I z0_0)], [(2, .av (.st [.N])), (3, .av (.st [.slc 1076 0 ((z0_1).length) 33])), (1076, .av (.d (.arr 33 ((z0_1).length) ((z0_1).map eGLine))))], []⟩
  refine aw_rs ?_
  refine .b rfl rfl rfl ?_
  refine .nil (aq_then ?_)
  refine aw_seq ?_
  refine aw_cond rfl (fun hc3 => ?_) (fun hc3 => ?_)
  ·replace h := ite_t hc3 h
   refine aw_skip ?_
   refine aq_then ?_
   refine aw_seq ?_
   refine aw_block ?_
   refine aw_rs ?_
   refine .m rfl ?_
   refine .a rfl ?_
   refine .nil (aq_then ?_)
   refine aw_rd ?_
   refine .v1 (f_fieldAddr (n := 0) (by rfl) fl24_0 (by decide)) rfl rfl ?_
   refine .v (f_load (n := 0) (o := 3) (off := (0 + 0)) (p := [0]) (c := .st [.slc 1076 0 ((z0_1).length) 33]) (z := .slc 1076 0 ((z0_1).length) 33) (by rfl) rfl ty22 (by rfl)) rfl (.c rfl .nil) (.cons rfl .nil) ?_
   refine .v1 (f_move (by rfl)) rfl rfl ?_
   refine .v1 (f_fieldAddr (n := 0) (by rfl) fl24_0 (by decide)) rfl rfl ?_
   refine .v (f_load (n := 0) (o := 3) (off := (0 + 0)) (p := [0]) (c := .st [.slc 1076 0 ((z0_1).length) 33]) (z := .slc 1076 0 ((z0_1).length) 33) (by rfl) rfl ty22 (by rfl)) rfl (.c rfl .nil) (.cons rfl .nil) ?_
   refine .v1 (f_move (by rfl)) rfl rfl ?_
   obtain ⟨x4, hx5, h⟩ := bind_some h
   obtain ⟨hx6, hx5⟩ := rd_some hx5
   refine .v (f_indexSW (by rfl) sl22 hx6 (rd_map _ hx5)) rfl (.c rfl (.c rfl .nil)) (.cons rfl .nil) ?_
   refine .v (f_load (n := 0) (o := 1076) (off := ((0 + (z0_0).toNat) * 33)) (p := [0 + (z0_0).toNat]) (c := .d (.arr 33 ((z0_1).length) ((z0_1).map eGLine))) (z := .d (eGLine x4)) (by rfl) (at_map _ (by simpa using hx5) rfl) ty69 (by rfl)) rfl (.c rfl .nil) (.cons rfl .nil) ?_
   obtain ⟨y7, hy8, h⟩ := bind_some h
   refine .v1 (f_callP hgl (by rfl) en69 rfl (by rfl) (by rfl) (by rfl) (acall_frz (y := (eGLine (⟨y7.1, y7.2⟩ : GLine))) [(1077, (.arr 99 ((y7.2).length) ((y7.2).map eGTx)))] (.cons rfl .nil) (.st (.cons (.same _) (.cons (.whole (.head _)) .nil))) (F69_queue_Twin_ok hy8))) rfl rfl ?_
   obtain ⟨x9, hx10, h⟩ := bind_some h
   obtain ⟨hx11, hx10⟩ := rd_some hx10
   refine .v (f_indexSW (by rfl) sl22 hx11 (rd_map _ hx10)) rfl (.c rfl (.c rfl .nil)) (.cons rfl .nil) ?_
   refine .s (f_store (n := 0) (o := 1076) (off := ((0 + (z0_0).toNat) * 33)) (p := [0 + (z0_0).toNat]) (c := .d (.arr 33 ((z0_1).length) ((z0_1).map eGLine))) (old := .d (eGLine x9)) (z := .d (eGLine (⟨y7.1, y7.2⟩ : GLine))) (c' := .d (.arr 33 ((z0_1).length) (((z0_1.set (0 + (z0_0).toNat) (⟨y7.1, y7.2⟩ : GLine))).map eGLine))) (at_map _ (by simpa using hx10) rfl) (put_map _ (by simpa using hx10)) (by rfl) ty69 (by rfl)) rfl (.c rfl (.c rfl .nil)) (.cons rfl .nil) ?_
   refine .nil (by kernel_rfl) ?_
   refine aq_block ?_
   refine aq_then ?_
   refine aw_r ?_
   refine .b rfl rfl rfl ?_
   refine .m rfl ?_
   refine .nil ?_
   obtain rfl := Option.some.inj h
   refine aq_weak (s' := ⟨[(2, .ptr 2 0 []), (3, .ptr 3 0 []), (11, .I ((y1).length : Int)), (12, .I (IntKind.i64.wrap (z0_0 + (1 : Int))))], [(2, .av (.st [.N])), (3, .av (.st [.slc 1076 0 (((z0_1.set (0 + (z0_0).toNat) (⟨y7.1, y7.2⟩ : GLine))).length) 33])), (1076, .av (.d (.arr 33 (((z0_1.set (0 + (z0_0).toNat) (⟨y7.1, y7.2⟩ : GLine))).length) (((z0_1.set (0 + (z0_0).toNat) (⟨y7.1, y7.2⟩ : GLine))).map eGLine))))], []⟩) id hb0 (.keep rfl (.keep rfl (.keep rfl (.keep rfl .nil)))) (.keep rfl (.keep (by simp only [List.length_set]; rfl) (.keep (by simp only [List.length_set]; rfl) .nil))) rfl (by rfl) ?_
   exact jq
  replace h := ite_f hc3 h
  refine aw_exit ?_
  refine aq_then_exit ?_
  obtain rfl := Option.some.inj h
  refine aq_k hb0 (.k 2 rfl (.k 3 rfl .nil)) (.k 2 rfl (.k 3 rfl (.k 1076 rfl .nil))) ?_
  exact jq
 refine aq_block_exit ?_
 refine aq_then ?_
 refine aw_rs ?_
 refine .l 3 0 [] (.st [.slc 1076 0 ((o12).length) 33]) (.st [.slc 1076 0 ((o12).length) 33]) ty24 ?_
 refine .s (f_store (n := 0) (o := 2) (off := 0) (p := []) (c := .st [.N]) (old := .st [.N]) (z := .st [.slc 1076 0 ((o12).length) 33]) (c' := .st [.slc 1076 0 ((o12).length) 33]) rfl rfl (by rfl) ty24 (by rfl)) rfl (.c rfl (.c rfl .nil)) (.cons rfl .nil) ?_
 refine .nil (aq_then ?_)
 refine aw_ret ?_
 obtain rfl := Option.some.inj h
 refine aq_k hb0 (.k 2 rfl .nil) (.k 2 rfl (.k 1076 rfl .nil)) ?_
 exact aq_fin1 (.cell rfl rfl ty24 (by rfl) .nil) rfl ⟨rfl, rfl⟩
def F97_pool_Twin_s0 (n : Nat) (a0 : (List GShard)) (z0_0 : Int) (z0_1 : List GShard) : Option ((Int × List GShard) ⊕ (List GShard)) :=
  (if (decide (z0_0 < ((a0).length : Int))) = true then ((rd a0 z0_0).bind fun (x2 : GShard) => ((F32_shard_Twin n x2).bind fun (y5 : List GLine) => (if ((z0_1 ++ ([(⟨y5⟩ : GShard)] : List GShard))).length ≤ 1073741824 then some (.inl ((IntKind.i64.wrap (z0_0 + (1 : Int))), (z0_1 ++ ([(⟨y5⟩ : GShard)] : List GShard)))) else none))) else some (.inr z0_1))
def F97_pool_Twin (n : Nat) (a0 : (List GShard)) : Option (List GShard) :=
  ((loopF (fun (z : Int × List GShard) => F97_pool_Twin_s0 n a0 z.1 z.2) n ((0 : Int), ([] : List GShard))).bind fun (o8 : List GShard) => some o8)
theorem F97_pool_Twin_ok {n : Nat} {a0 : (List GShard)} {r : List GShard} (h : F97_pool_Twin n a0 = some r) :
    ACall Tryz.prog GS 97 [.d (eL45 a0)] [] (fun r' hp' => r' = .slc 1082 0 ((r).length) 1 ∧ hp' = [(1082, .av (.d (.arr 1 ((r).length) ((r).map eGShard))))]) := by
 refine acall_of_body mixed Tryz.func97 rfl (by rfl) ?_
 intro C hro hgl hb0
 unfold F97_pool_Twin at h
 refine aw_rs ?_
 refine .a rfl ?_
 refine .z ?_
 refine .a rfl ?_
 refine .nil (aq_then ?_)
 refine aw_seq ?_
 refine aw_rs ?_
 refine .m rfl ?_
 refine .v1 (f_lenD (n := (a0).length) (by rfl) sl45 rfl (by simp)) rfl rfl ?_
 refine .m rfl ?_
 refine .nil (aq_then ?_)
 refine aw_block ?_
 refine aw_adopt 3 1082 1 rfl rfl ?_
 refine aw_weak (s' := ⟨[(3, .slc 1082 0 ((([] : List GShard)).length) 1), (6, .d (eL45 a0)), (7, .I ((a0).length : Int)), (8, .I (0 : Int))], [(1082, .av (.d (.arr 1 ((([] : List GShard)).length) ((([] : List GShard)).map eGShard))))], []⟩) id hb0 (.keep (by simp only [List.length_set]; rfl) (.keep rfl (.keep rfl (.keep rfl .nil)))) (.keep (by simp only [List.length_set]; rfl) .nil) rfl (by rfl) ?_
 obtain ⟨o8, ho9, h⟩ := bind_some h
 refine aw_loopX (σ := Int × List GShard) (fun z => ⟨[(3, .slc 1082 0 ((z.2).length) 1), (6, .d (eL45 a0)), (7, .I ((a0).length : Int)), (8, .I z.1)], [(1082, .av (.d (.arr 1 ((z.2).length) ((z.2).map eGShard))))], []⟩) (fun _ => (.exit 0)) (fun (o8 : List GShard) => ⟨[(3, .slc 1082 0 ((o8).length) 1)], [(1082, .av (.d (.arr 1 ((o8).length) ((o8).map eGShard))))], []⟩) ho9 (fun _ => rfl) ?_ ?_
 ·clear h ho9
  rintro ⟨z0_0, z0_1⟩ o h
  change F97_pool_Twin_s0 n a0 z0_0 z0_1 = some o at h
  unfold F97_pool_Twin_s0 at h
  show AW _ _ _ ⟨[(3, .slc 1082 0 ((z0_1).length) 1), (6, .d (eL45 a0)), (7, .I ((a0).length : Int)), (8, .I z0_0)], [(1082, .av (.d (.arr 1 ((z0_1).length) ((z0_1).map eGShard))))], []⟩
  refine aw_rs ?_
  refine .b rfl rfl rfl ?_
  refine .nil (aq_then ?_)
  refine aw_seq ?_
  refine aw_cond rfl (fun hc1 => ?_) (fun hc1 => ?_)
  ·replace h := ite_t hc1 h
   refine aw_skip ?_
   refine aq_then ?_
   refine aw_seq ?_
   refine aw_block ?_
   refine aw_rs ?_
   obtain ⟨x2, hx3, h⟩ := bind_some h
   obtain ⟨hx4, hx3⟩ := rd_some hx3
   refine .v2 (f_indexS (by rfl) sl45 hx4 (rd_map _ hx3)) rfl rfl rfl ?_
   refine .v1 (f_loadR (z := (eGShard x2)) (by rfl) ty24) rfl rfl ?_
   refine .n (f_alloc 5 (by rfl) zrv24) rfl .nil rfl ?_
   refine .s (f_store (n := 0) (o := 5) (off := 0) (p := []) (c := .st [.N]) (old := .st [.N]) (z := .d (eGShard x2)) (c' := .d (eGShard x2)) rfl rfl (by rfl) ty24 (by rfl)) rfl (.c rfl (.c rfl .nil)) (.cons rfl .nil) ?_
   refine .nil (aq_then ?_)
   refine aw_r ?_
   refine .m rfl ?_
   refine .l 5 0 [] (.d (eGShard x2)) (.d (eGShard x2)) ty24 ?_
   obtain ⟨y5, hy6, h⟩ := bind_some h
   refine .w (f_callG (xs := [.d (eGShard x2)]) (r := .st [.slc 1088 0 ((y5).length) 33]) (hw := [(1087, .av (.st [.slc 1088 0 ((y5).length) 33])), (1088, .av (.d (.arr 33 ((y5).length) ((y5).map eGLine))))]) (fun i => bif Nat.beq i 1076 then 1088 else (bif Nat.beq i 2 then 1087 else i)) [] hgl (by rfl) (cal_f en32) rfl (by rfl) (by rfl) (by rfl) (by rfl) (.cons (.same _) .nil) rfl rfl rfl rfl (F32_shard_Twin_ok hy6)) rfl (.c rfl .nil) .nil (.cons rfl (.cons rfl .nil)) ?_
   refine R.freezeH [(1088, (.arr 33 ((y5).length) ((y5).map eGLine)))] [(6, .d (eL45 a0)), (7, .I ((a0).length : Int)), (8, .I z0_0), (12, .slc 1082 0 ((z0_1).length) 1), (14, .d (eGShard (⟨y5⟩ : GShard)))] [(1087, .av (.d (eGShard (⟨y5⟩ : GShard))))] (.cons rfl .nil) (.keep rfl (.keep rfl (.keep rfl (.keep rfl (.cons rfl (.st (.cons (.whole (.head _)) .nil)) .nil))))) (.cons rfl (by rfl) (.st (.cons (.whole (.head _)) .nil)) .nil) ?_
   refine .n (f_buildS (xs := [(0, .d (eGShard (⟨y5⟩ : GShard)))]) (z := (.st [(.val (.slice none 0 0))])) (zs := (([(⟨y5⟩ : GShard)] : List GShard)).map eGShard) 1089 (by rfl) el45 zel45 (by rfl) (by decide) (by decide) rfl (by rfl) ⟨_, _, _, rfl, pl45_0, rfl, rfl, trivial⟩ (by rfl)) rfl (.c rfl .nil) rfl ?_
   obtain ⟨hb7, h⟩ := ifp h
   refine .w (f_appendC (m := ((z0_1 ++ ([(⟨y5⟩ : GShard)] : List GShard))).length) (ys := (([(⟨y5⟩ : GShard)] : List GShard) : List GShard).map eGShard) (xs := (z0_1).map eGShard) (zs := ((z0_1 ++ ([(⟨y5⟩ : GShard)] : List GShard))).map eGShard) 1090 (by rfl) el45 (by simp) (by simp) (by simp [List.map_drop]) (by simp) (Nat.le_trans (Nat.mul_le_mul_right _ hb7) (by decide)) (Nat.le_trans hb7 (by decide)) srcW) rfl (.c rfl (.c rfl .nil)) (.cons rfl (.cons rfl .nil)) (.cons rfl .nil) ?_
   refine .a rfl ?_
   refine .nil ?_
   refine aq_block ?_
   refine aq_then ?_
   refine aw_r ?_
   refine .b rfl rfl rfl ?_
   refine .m rfl ?_
   refine .nil ?_
   obtain rfl := Option.some.inj h
   refine aq_weak (s' := ⟨[(3, .slc 1082 0 (((z0_1 ++ ([(⟨y5⟩ : GShard)] : List GShard))).length) 1), (6, .d (eL45 a0)), (7, .I ((a0).length : Int)), (8, .I (IntKind.i64.wrap (z0_0 + (1 : Int))))], [(1082, .av (.d (.arr 1 (((z0_1 ++ ([(⟨y5⟩ : GShard)] : List GShard))).length) (((z0_1 ++ ([(⟨y5⟩ : GShard)] : List GShard))).map eGShard))))], []⟩) (fun i => (bif Nat.beq i 1082 then 1090 else i)) hb0 (.cons rfl (.cons rfl (.cons rfl (.cons rfl .nil)))) (.cons rfl .nil) rfl (by rfl) ?_
   exact jq
  replace h := ite_f hc1 h
  refine aw_exit ?_
  refine aq_then_exit ?_
  obtain rfl := Option.some.inj h
  refine aq_k hb0 (.k 3 rfl .nil) (.k 1082 rfl .nil) ?_
  exact jq
 refine aq_block_exit ?_
 refine aq_then ?_
 refine aw_rs ?_
 refine .m rfl ?_
 refine .a rfl ?_
 refine .nil (aq_then ?_)
 refine aw_ret ?_
 obtain rfl := Option.some.inj h
 refine aq_k hb0 (.k 2 rfl .nil) (.k 1082 rfl .nil) ?_
 exact aq_fin1 (.tmp rfl (by rfl) .nil) rfl ⟨rfl, rfl⟩
def F71_acct_Read (n : Nat) (a0 : (List Int)) : Option (GAccount × Int) :=
  ((F113_num_Take n a0 (8 : Int)).bind fun (y1 : Int × (List Int) × Int) => (if (y1.2.2 != (0 : Int)) = true then some ((⟨(0 : Int), (0 : Int)⟩ : GAccount), y1.2.2) else ((F113_num_Take n y1.2.1 (8 : Int)).bind fun (y4 : Int × (List Int) × Int) => (if (y4.2.2 != (0 : Int)) = true then some ((⟨(0 : Int), (0 : Int)⟩ : GAccount), y4.2.2) else ((F114_num_End n y4.2.1).bind fun (y7 : Int) => (if (y7 != (0 : Int)) = true then some ((⟨(0 : Int), (0 : Int)⟩ : GAccount), (11 : Int)) else (if (decide ({ { (⟨(0 : Int), (0 : Int)⟩ : GAccount) with Nonce := y1.1 } with Balance := y4.1 } = (⟨(0 : Int), (0 : Int)⟩ : GAccount))) = true then some ((⟨(0 : Int), (0 : Int)⟩ : GAccount), (8 : Int)) else some ({ { (⟨(0 : Int), (0 : Int)⟩ : GAccount) with Nonce := y1.1 } with Balance := y4.1 }, (0 : Int)))))))))
theorem F71_acct_Read_ok {n : Nat} {a0 : (List Int)} {r : GAccount × Int} (h : F71_acct_Read n a0 = some r) :
    ACall Tryz.prog GS 71 [.d (eL70 a0)] [] (fun r' hp' => r' = .res [.d (eGAccount r.1), .I r.2] ∧ hp' = []) := by
 refine acall_of_body mixed Tryz.func71 rfl (by rfl) ?_
 intro C hro hgl hb0
 unfold F71_acct_Read at h
 refine aw_rs ?_
 refine .n (f_alloc 2 (by rfl) zr80) rfl .nil rfl ?_
 refine .a rfl ?_
 refine .z ?_
 refine .a rfl ?_
 refine .nil (aq_then ?_)
 refine aw_seq ?_
 refine aw_rs ?_
 refine .m rfl ?_
 obtain ⟨y1, hy2, h⟩ := bind_some h
 refine .v2 (f_callP hgl (by rfl) en113 rfl (by rfl) (by rfl) (by rfl) (F113_num_Take_ok hy2)) rfl rfl rfl ?_
 refine .m rfl ?_
 refine .v1 (f_extract (by rfl) rfl) rfl rfl ?_
 refine .v1 (f_extract (by rfl) rfl) rfl rfl ?_
 refine .v1 (f_extract (by rfl) rfl) rfl rfl ?_
 refine .v1 (f_fieldAddr (n := 0) (by rfl) fl80_0 (by decide)) rfl rfl ?_
 refine .s (f_store (n := 0) (o := 2) (off := (0 + 0)) (p := [0]) (c := .d (eGAccount (⟨(0 : Int), (0 : Int)⟩ : GAccount))) (old := .U ((⟨(0 : Int), (0 : Int)⟩ : GAccount).Nonce)) (z := .U y1.1) (c' := .d (eGAccount ({ (⟨(0 : Int), (0 : Int)⟩ : GAccount) with Nonce := y1.1 }))) rfl rfl (by rfl) ty48 (by rfl)) rfl (.c rfl (.c rfl .nil)) (.cons rfl .nil) ?_
 refine .a rfl ?_
 refine .a rfl ?_
 refine .z ?_
 refine .m rfl ?_
 refine .b rfl rfl rfl ?_
 refine .nil (aq_then ?_)
 refine aw_cond rfl (fun hc3 => ?_) (fun hc3 => ?_)
 ·replace h := ite_t hc3 h
  refine aw_rs ?_
  refine .v (f_build (xs := []) (z' := .d (eGAccount (⟨(0 : Int), (0 : Int)⟩ : GAccount))) (by rfl) zr80 ag80 rfl (by rfl) trivial (by rfl) (by rfl)) rfl .nil .nil ?_
  refine .m rfl ?_
  refine .s (f_store (n := 0) (o := 2) (off := 0) (p := []) (c := .d (eGAccount ({ (⟨(0 : Int), (0 : Int)⟩ : GAccount) with Nonce := y1.1 }))) (old := .d (eGAccount ({ (⟨(0 : Int), (0 : Int)⟩ : GAccount) with Nonce := y1.1 }))) (z := .d (eGAccount (⟨(0 : Int), (0 : Int)⟩ : GAccount))) (c' := .d (eGAccount (⟨(0 : Int), (0 : Int)⟩ : GAccount))) rfl rfl (by rfl) ty80 (by rfl)) rfl (.c rfl (.c rfl .nil)) (.cons rfl .nil) ?_
  refine .a rfl ?_
  refine .nil (aq_then ?_)
  refine aw_ret ?_
  refine aq_then_ret ?_
  obtain rfl := Option.some.inj h
  exact aq_finp hb0 rfl (.cell rfl rfl ty80 (by rfl) (.tmp rfl (by rfl) .nil)) (by rfl) rfl ⟨rfl, rfl⟩
 replace h := ite_f hc3 h
 refine aw_skip ?_
 refine aq_then ?_
 refine aw_seq ?_
 refine aw_rs ?_
 refine .m rfl ?_
 obtain ⟨y4, hy5, h⟩ := bind_some h
 refine .v2 (f_callP hgl (by rfl) en113 rfl (by rfl) (by rfl) (by rfl) (F113_num_Take_ok hy5)) rfl rfl rfl ?_
 refine .m rfl ?_
 refine .v1 (f_extract (by rfl) rfl) rfl rfl ?_
 refine .v1 (f_extract (by rfl) rfl) rfl rfl ?_
 refine .v1 (f_extract (by rfl) rfl) rfl rfl ?_
 refine .v1 (f_fieldAddr (n := 1) (by rfl) fl80_1 (by decide)) rfl rfl ?_
 refine .s (f_store (n := 0) (o := 2) (off := (0 + 1)) (p := [1]) (c := .d (eGAccount ({ (⟨(0 : Int), (0 : Int)⟩ : GAccount) with Nonce := y1.1 }))) (old := .U (({ (⟨(0 : Int), (0 : Int)⟩ : GAccount) with Nonce := y1.1 }).Balance)) (z := .U y4.1) (c' := .d (eGAccount ({ { (⟨(0 : Int), (0 : Int)⟩ : GAccount) with Nonce := y1.1 } with Balance := y4.1 }))) rfl rfl (by rfl) ty48 (by rfl)) rfl (.c rfl (.c rfl .nil)) (.cons rfl .nil) ?_
 refine .a rfl ?_
 refine .a rfl ?_
 refine .z ?_
 refine .m rfl ?_
 refine .b rfl rfl rfl ?_
 refine .nil (aq_then ?_)
 refine aw_cond rfl (fun hc6 => ?_) (fun hc6 => ?_)
 ·replace h := ite_t hc6 h
  refine aw_rs ?_
  refine .v (f_build (xs := []) (z' := .d (eGAccount (⟨(0 : Int), (0 : Int)⟩ : GAccount))) (by rfl) zr80 ag80 rfl (by rfl) trivial (by rfl) (by rfl)) rfl .nil .nil ?_
  refine .m rfl ?_
  refine .s (f_store (n := 0) (o := 2) (off := 0) (p := []) (c := .d (eGAccount ({ { (⟨(0 : Int), (0 : Int)⟩ : GAccount) with Nonce := y1.1 } with Balance := y4.1 }))) (old := .d (eGAccount ({ { (⟨(0 : Int), (0 : Int)⟩ : GAccount) with Nonce := y1.1 } with Balance := y4.1 }))) (z := .d (eGAccount (⟨(0 : Int), (0 : Int)⟩ : GAccount))) (c' := .d (eGAccount (⟨(0 : Int), (0 : Int)⟩ : GAccount))) rfl rfl (by rfl) ty80 (by rfl)) rfl (.c rfl (.c rfl .nil)) (.cons rfl .nil) ?_
  refine .a rfl ?_
  refine .nil (aq_then ?_)
  refine aw_ret ?_
  refine aq_then_ret ?_
  obtain rfl := Option.some.inj h
  exact aq_finp hb0 rfl (.cell rfl rfl ty80 (by rfl) (.tmp rfl (by rfl) .nil)) (by rfl) rfl ⟨rfl, rfl⟩
 replace h := ite_f hc6 h
 refine aw_skip ?_
 refine aq_then ?_
 refine aw_seq ?_
 refine aw_block ?_
 refine aw_rs ?_
 refine .m rfl ?_
 obtain ⟨y7, hy8, h⟩ := bind_some h
 refine .v1 (f_callP hgl (by rfl) en114 rfl (by rfl) (by rfl) (by rfl) (F114_num_End_ok hy8)) rfl rfl ?_
 refine .b rfl rfl rfl ?_
 refine .a rfl ?_
 refine .nil (aq_then ?_)
 refine aw_cond rfl (fun hc9 => ?_) (fun hc9 => ?_)
 ·replace h := ite_t hc9 h
  refine aw_rs ?_
  refine .v (f_build (xs := []) (z' := .d (eGAccount (⟨(0 : Int), (0 : Int)⟩ : GAccount))) (by rfl) zr80 ag80 rfl (by rfl) trivial (by rfl) (by rfl)) rfl .nil .nil ?_
  refine .s (f_store (n := 0) (o := 2) (off := 0) (p := []) (c := .d (eGAccount ({ { (⟨(0 : Int), (0 : Int)⟩ : GAccount) with Nonce := y1.1 } with Balance := y4.1 }))) (old := .d (eGAccount ({ { (⟨(0 : Int), (0 : Int)⟩ : GAccount) with Nonce := y1.1 } with Balance := y4.1 }))) (z := .d (eGAccount (⟨(0 : Int), (0 : Int)⟩ : GAccount))) (c' := .d (eGAccount (⟨(0 : Int), (0 : Int)⟩ : GAccount))) rfl rfl (by rfl) ty80 (by rfl)) rfl (.c rfl (.c rfl .nil)) (.cons rfl .nil) ?_
  refine .a rfl ?_
  refine .nil (aq_then ?_)
  refine aw_ret ?_
  refine aq_block_ret ?_
  refine aq_then_ret ?_
  obtain rfl := Option.some.inj h
  exact aq_finp hb0 rfl (.cell rfl rfl ty80 (by rfl) (.tmp rfl (by rfl) .nil)) (by rfl) rfl ⟨rfl, rfl⟩
 replace h := ite_f hc9 h
 refine aw_rs ?_
 refine .l 2 0 [] (.d (eGAccount ({ { (⟨(0 : Int), (0 : Int)⟩ : GAccount) with Nonce := y1.1 } with Balance := y4.1 }))) (.d (eGAccount ({ { (⟨(0 : Int), (0 : Int)⟩ : GAccount) with Nonce := y1.1 } with Balance := y4.1 }))) ty80 ?_
 refine .v (f_build (xs := []) (z' := .d (eGAccount (⟨(0 : Int), (0 : Int)⟩ : GAccount))) (by rfl) zr80 ag80 rfl (by rfl) trivial (by rfl) (by rfl)) rfl .nil .nil ?_
 refine .v2 (f_eqlT (by rfl) (fit80 _) (fit80 _) (by rfl) (by rfl) gd80 (eq_eGAccount _ _)) rfl rfl rfl ?_
 refine .a rfl ?_
 refine .nil (aq_then ?_)
 refine aw_cond rfl (fun hc10 => ?_) (fun hc10 => ?_)
 ·replace h := ite_t hc10 h
  refine aw_rs ?_
  refine .v (f_build (xs := []) (z' := .d (eGAccount (⟨(0 : Int), (0 : Int)⟩ : GAccount))) (by rfl) zr80 ag80 rfl (by rfl) trivial (by rfl) (by rfl)) rfl .nil .nil ?_
  refine .s (f_store (n := 0) (o := 2) (off := 0) (p := []) (c := .d (eGAccount ({ { (⟨(0 : Int), (0 : Int)⟩ : GAccount) with Nonce := y1.1 } with Balance := y4.1 }))) (old := .d (eGAccount ({ { (⟨(0 : Int), (0 : Int)⟩ : GAccount) with Nonce := y1.1 } with Balance := y4.1 }))) (z := .d (eGAccount (⟨(0 : Int), (0 : Int)⟩ : GAccount))) (c' := .d (eGAccount (⟨(0 : Int), (0 : Int)⟩ : GAccount))) rfl rfl (by rfl) ty80 (by rfl)) rfl (.c rfl (.c rfl .nil)) (.cons rfl .nil) ?_
  refine .a rfl ?_
  refine .nil (aq_then ?_)
  refine aw_ret ?_
  refine aq_block_ret ?_
  refine aq_then_ret ?_
  obtain rfl := Option.some.inj h
  exact aq_finp hb0 rfl (.cell rfl rfl ty80 (by rfl) (.tmp rfl (by rfl) .nil)) (by rfl) rfl ⟨rfl, rfl⟩
 replace h := ite_f hc10 h
 refine aw_skip ?_
 refine aq_block ?_
 refine aq_then ?_
 refine aw_rs ?_
 refine .l 2 0 [] (.d (eGAccount ({ { (⟨(0 : Int), (0 : Int)⟩ : GAccount) with Nonce := y1.1 } with Balance := y4.1 }))) (.d (eGAccount ({ { (⟨(0 : Int), (0 : Int)⟩ : GAccount) with Nonce := y1.1 } with Balance := y4.1 }))) ty80 ?_
 refine .s (f_store (n := 0) (o := 2) (off := 0) (p := []) (c := .d (eGAccount ({ { (⟨(0 : Int), (0 : Int)⟩ : GAccount) with Nonce := y1.1 } with Balance := y4.1 }))) (old := .d (eGAccount ({ { (⟨(0 : Int), (0 : Int)⟩ : GAccount) with Nonce := y1.1 } with Balance := y4.1 }))) (z := .d (eGAccount ({ { (⟨(0 : Int), (0 : Int)⟩ : GAccount) with Nonce := y1.1 } with Balance := y4.1 }))) (c' := .d (eGAccount ({ { (⟨(0 : Int), (0 : Int)⟩ : GAccount) with Nonce := y1.1 } with Balance := y4.1 }))) rfl rfl (by rfl) ty80 (by rfl)) rfl (.c rfl (.c rfl .nil)) (.cons rfl .nil) ?_
 refine .a rfl ?_
 refine .nil (aq_then ?_)
 refine aw_ret ?_
 obtain rfl := Option.some.inj h
 exact aq_finp hb0 rfl (.cell rfl rfl ty80 (by rfl) (.tmp rfl (by rfl) .nil)) (by rfl) rfl ⟨rfl, rfl⟩
def F70_tree_Get (n : Nat) (a0 : GTree) (a1 : (List Int)) : Option ((List Int) × Bool) :=
  ((F110_tree_Check n a0).bind fun (y1 : Int) => (if (y1 != (0 : Int)) = true then some ([], false) else ((F111_tree_find n a0 a1).bind fun (y4 : Int) => (if (y4 == (0 : Int)) = true then some ([], false) else ((rd a0.Nodes (IntKind.i64.wrap (y4 - (1 : Int)))).bind fun (x7 : GNode) => ((F112_Clone n x7.Value).bind fun (y10 : List Int) => some (y10, true)))))))
theorem F70_tree_Get_ok {n : Nat} {a0 : GTree} {a1 : (List Int)} {r : (List Int) × Bool} (h : F70_tree_Get n a0 a1 = some r) :
    ACall Tryz.prog GS 70 [.d (eGTree a0), .d (eA46 a1)] [] (fun r' hp' => r' = .res [.d (eL70 r.1), .B r.2] ∧ hp' = []) := by
 refine acall_of_body mixed Tryz.func70 rfl (by rfl) ?_
 intro C hro hgl hb0
 unfold F70_tree_Get at h
 refine aw_rs ?_
 refine .n (f_box 2 (by rfl) (by rfl)) rfl (.c rfl .nil) rfl ?_
 refine .n (f_box 3 (by rfl) (by rfl)) rfl (.c rfl .nil) rfl ?_
 refine .a rfl ?_
 refine .a rfl ?_
 refine .nil (aq_then ?_)
 refine aw_seq ?_
 refine aw_rs ?_
 refine .l 2 0 [] (.d (eGTree a0)) (.d (eGTree a0)) ty27 ?_
 obtain ⟨y1, hy2, h⟩ := bind_some h
 refine .v1 (f_callP hgl (by rfl) en110 rfl (by rfl) (by rfl) (by rfl) (F110_tree_Check_ok hy2)) rfl rfl ?_
 refine .b rfl rfl rfl ?_
 refine .nil (aq_then ?_)
 refine aw_cond rfl (fun hc3 => ?_) (fun hc3 => ?_)
 ·replace h := ite_t hc3 h
  refine aw_rs ?_
  refine .a rfl ?_
  refine .a rfl ?_
  refine .nil (aq_then ?_)
  refine aw_ret ?_
  refine aq_then_ret ?_
  obtain rfl := Option.some.inj h
  refine aq_freeze [] [(4, .d (eL70 ([]))), (5, .B false)] .nil (.cons rfl .nil (.keep rfl .nil)) ?_
  exact aq_finp hb0 rfl (.tmp rfl (by rfl) (.tmp rfl (by rfl) .nil)) (by rfl) rfl ⟨rfl, rfl⟩
 replace h := ite_f hc3 h
 refine aw_skip ?_
 refine aq_then ?_
 refine aw_rs ?_
 refine .l 2 0 [] (.d (eGTree a0)) (.d (eGTree a0)) ty27 ?_
 refine .l 3 0 [] (.d (eA46 a1)) (.d (eA46 a1)) ty47 ?_
 obtain ⟨y4, hy5, h⟩ := bind_some h
 refine .v2 (f_callP hgl (by rfl) en111 rfl (by rfl) (by rfl) (by rfl) (F111_tree_find_ok hy5)) rfl rfl rfl ?_
 refine .a rfl ?_
 refine .nil (aq_then ?_)
 refine aw_seq ?_
 refine aw_rs ?_
 refine .m rfl ?_
 refine .b rfl rfl rfl ?_
 refine .nil (aq_then ?_)
 refine aw_cond rfl (fun hc6 => ?_) (fun hc6 => ?_)
 ·replace h := ite_t hc6 h
  refine aw_rs ?_
  refine .a rfl ?_
  refine .a rfl ?_
  refine .nil (aq_then ?_)
  refine aw_ret ?_
  refine aq_then_ret ?_
  obtain rfl := Option.some.inj h
  refine aq_freeze [] [(4, .d (eL70 ([]))), (5, .B false)] .nil (.cons rfl .nil (.keep rfl .nil)) ?_
  exact aq_finp hb0 rfl (.tmp rfl (by rfl) (.tmp rfl (by rfl) .nil)) (by rfl) rfl ⟨rfl, rfl⟩
 replace h := ite_f hc6 h
 refine aw_skip ?_
 refine aq_then ?_
 refine aw_rs ?_
 refine .v1 (f_fieldAddr (n := 0) (by rfl) fl27_0 (by decide)) rfl rfl ?_
 refine .l 2 (0 + 0) [0] (.d (eGTree a0)) (.d (eL25 a0.Nodes)) ty25 ?_
 refine .m rfl ?_
 refine .b rfl rfl rfl ?_
 obtain ⟨x7, hx8, h⟩ := bind_some h
 obtain ⟨hx9, hx8⟩ := rd_some hx8
 refine .v2 (f_indexS (by rfl) sl25 hx9 (rd_map _ hx8)) rfl rfl rfl ?_
 refine .v1 (f_fieldAddrR (by rfl) fl72_2 (by decide) rfl) rfl rfl ?_
 refine .v1 (f_loadR (z := (eL70 x7.Value)) (by rfl) ty70) rfl rfl ?_
 obtain ⟨y10, hy11, h⟩ := bind_some h
 refine .w (f_callG (xs := [.d (eL70 x7.Value)]) (r := .slc 1091 0 ((y10).length) 1) (hw := [(1091, .av (.d (.arr 1 ((y10).length) ((y10).map eI_u8))))]) (fun i => bif Nat.beq i 0 then 1091 else i) [] hgl (by rfl) (cal_f en112) rfl (by rfl) (by rfl) (by rfl) (by rfl) (.cons (.same _) .nil) rfl rfl rfl rfl (F112_Clone_ok hy11)) rfl (.c rfl .nil) .nil (.cons rfl .nil) ?_
 refine .a rfl ?_
 refine .a rfl ?_
 refine .nil (aq_then ?_)
 refine aw_ret ?_
 obtain rfl := Option.some.inj h
 refine aq_freeze [(1091, (.arr 1 ((y10).length) ((y10).map eI_u8)))] [(4, .d (eL70 y10)), (5, .B true)] (.cons rfl .nil) (.cons rfl (.whole (.head _)) (.keep rfl .nil)) ?_
 exact aq_finp hb0 rfl (.tmp rfl (by rfl) (.tmp rfl (by rfl) .nil)) (by rfl) rfl ⟨rfl, rfl⟩
def F30_shard_Check_s0 (n : Nat) (a0 : GShard) (z0_0 : Int) : Option ((Int) ⊕ ((Unit) ⊕ (Unit))) :=
  (if (decide (z0_0 < ((a0.Lines).length : Int))) = true then ((rd a0.Lines z0_0).bind fun (x2 : GLine) => (((if (((x2.Txs).length : Int) == (0 : Int)) = true then some true else ((F65_queue_Check n x2).bind fun (y6 : Int) => (if (y6 != (0 : Int)) = true then some true else (if (decide (z0_0 > (0 : Int))) = true then ((rd a0.Lines (IntKind.i64.wrap (z0_0 - (1 : Int)))).bind fun (x10 : GLine) => ((F66_path_Ahead n x10.From x2.From).bind fun (y13 : Bool) => some (!y13))) else some false))))).bind fun (o15 : Bool) => (if o15 = true then some (.inr (.inr ())) else some (.inl (IntKind.i64.wrap (z0_0 + (1 : Int))))))) else some (.inr (.inl ())))
def F30_shard_Check (n : Nat) (a0 : GShard) : Option (Int) :=
  ((loopF (fun (z : Int) => F30_shard_Check_s0 n a0 z) n (0 : Int)).bind (Sum.elim (fun (j18 : Unit) => some (0 : Int)) (fun (j18 : Unit) => some (8 : Int))))
theorem F30_shard_Check_ok {n : Nat} {a0 : GShard} {r : Int} (h : F30_shard_Check n a0 = some r) :
    ACall Tryz.prog GS 30 [.d (eGShard a0)] [] (fun r' hp' => r' = .I r ∧ hp' = []) := by
 refine acall_of_body mixed Tryz.func30 rfl (by rfl) ?_
 intro C hro hgl hb0
 unfold F30_shard_Check at h
 refine aw_rs ?_
 refine .n (f_box 1 (by rfl) (by rfl)) rfl (.c rfl .nil) rfl ?_
 refine .a rfl ?_
 refine .nil (aq_then ?_)
 refine aw_seq ?_
 refine aw_rs ?_
 refine .v1 (f_fieldAddr (n := 0) (by rfl) fl24_0 (by decide)) rfl rfl ?_
 refine .l 1 (0 + 0) [0] (.d (eGShard a0)) (.d (eL22 a0.Lines)) ty22 ?_
 refine .v1 (f_lenD (n := (a0.Lines).length) (by rfl) sl22 rfl (by simp)) rfl rfl ?_
 refine .m rfl ?_
 refine .nil (aq_then ?_)
 refine aw_block ?_
 refine aw_k hb0 (.k 1 rfl (.k 6 rfl (.k 7 rfl (.k 8 rfl .nil)))) (.k 1 rfl .nil) ?_
 obtain ⟨o18, ho19, h⟩ := bind_some h
 refine aw_loopX (σ := Int) (fun z => ⟨[(1, .ptr 1 0 []), (6, .d (eL22 a0.Lines)), (7, .I ((a0.Lines).length : Int)), (8, .I z)], [(1, .av (.d (eGShard a0)))], []⟩) (Sum.elim (fun _ => .exit 0) (fun _ => .ret)) (Sum.elim (fun j18 => ⟨[], [], []⟩) (fun j18 => ⟨[(2, .I (8 : Int))], [], []⟩)) ho19 (by intro b; rcases b with _ | _ <;> rfl) ?_ ?_
 ·clear h ho19
  intro z0_0 o h
  change F30_shard_Check_s0 n a0 z0_0 = some o at h
  unfold F30_shard_Check_s0 at h
  show AW _ _ _ ⟨[(1, .ptr 1 0 []), (6, .d (eL22 a0.Lines)), (7, .I ((a0.Lines).length : Int)), (8, .I z0_0)], [(1, .av (.d (eGShard a0)))], []⟩
  refine aw_rs ?_
  refine .b rfl rfl rfl ?_
  refine .nil (aq_then ?_)
  refine aw_seq ?_
  refine aw_cond rfl (fun hc1 => ?_) (fun hc1 => ?_)
  ·replace h := ite_t hc1 h
   refine aw_skip ?_
   refine aq_then ?_
   refine aw_seq ?_
   refine aw_block ?_
   refine aw_rs ?_
   refine .m rfl ?_
   obtain ⟨x2, hx3, h⟩ := bind_some h
   obtain ⟨hx4, hx3⟩ := rd_some hx3
   refine .v2 (f_indexS (by rfl) sl22 hx4 (rd_map _ hx3)) rfl rfl rfl ?_
   refine .v1 (f_loadR (z := (eGLine x2)) (by rfl) ty69) rfl rfl ?_
   refine .n (f_alloc 4 (by rfl) zrv69) rfl .nil rfl ?_
   refine .a rfl ?_
   refine .s (f_store (n := 0) (o := 4) (off := 0) (p := []) (c := .st [.d (eA46 (List.replicate 32 (0 : Int))), .N]) (old := .st [.d (eA46 (List.replicate 32 (0 : Int))), .N]) (z := .d (eGLine x2)) (c' := .d (eGLine x2)) rfl rfl (by rfl) ty69 (by rfl)) rfl (.c rfl (.c rfl .nil)) (.cons rfl .nil) ?_
   refine .nil (aq_then ?_)
   refine aw_seq ?_
   obtain ⟨o15, ho17, h⟩ := bind_some h
   refine aw_join (.normal) ⟨[(1, .ptr 1 0 []), (6, .d (eL22 a0.Lines)), (7, .I ((a0.Lines).length : Int)), (8, .I z0_0), (38, .B o15)], [(1, .av (.d (eGShard a0)))], []⟩ ?_ ?_
   ·replace h := ho17
    refine aw_rd ?_
    refine .v1 (f_fieldAddr (n := 32) (by rfl) fl69_1 (by decide)) rfl rfl ?_
    refine .v (f_load (n := 0) (o := 4) (off := (0 + 32)) (p := [1]) (c := .d (eGLine x2)) (z := .d (eL28 x2.Txs)) (by rfl) rfl ty28 (by rfl)) rfl (.c rfl .nil) (.cons rfl .nil) ?_
    refine .v1 (f_lenD (n := (x2.Txs).length) (by rfl) sl28 rfl (by simp)) rfl rfl ?_
    refine .v2 (f_binI (by rfl) rfl (by rfl)) rfl rfl rfl ?_
    refine .v1 (f_move (by rfl)) rfl rfl ?_
    rcases Bool.eq_false_or_eq_true (((x2.Txs).length : Int) == (0 : Int)) with hc5 | hc5
    ·replace h := ite_t hc5 h
     refine .q rfl rfl rfl hc5 rfl ?_
     refine .q rfl rfl rfl hc5 rfl ?_
     refine .q rfl rfl rfl hc5 rfl ?_
     refine .v2 (f_pick_true (by rfl) hc5) rfl rfl rfl ?_
     refine .v1 (f_move (by rfl)) rfl rfl ?_
     refine .q rfl rfl rfl rfl rfl ?_
     refine .q rfl rfl rfl rfl rfl ?_
     refine .q rfl rfl rfl rfl rfl ?_
     refine .offu rfl rfl rfl rfl (by rfl) ?_
     refine .offu rfl rfl rfl rfl (by rfl) ?_
     refine .offu rfl rfl rfl rfl (by rfl) ?_
     refine .offu rfl rfl rfl rfl (by rfl) ?_
     refine .offu rfl rfl rfl rfl (by rfl) ?_
     refine .offu rfl rfl rfl rfl (by rfl) ?_
     refine .offu rfl rfl rfl rfl (by rfl) ?_
     refine .offu rfl rfl rfl rfl (by rfl) ?_
     refine .offu rfl rfl rfl rfl (by rfl) ?_
     refine .offu rfl rfl rfl rfl (by rfl) ?_
     refine .offu rfl rfl rfl rfl (by rfl) ?_
     refine .q rfl rfl rfl rfl rfl ?_
     refine .v2 (f_pick_true (by rfl) rfl) rfl rfl rfl ?_
     refine .nil (by kernel_rfl) ?_
     obtain rfl := Option.some.inj h
     refine aq_k hb0 (.k 1 rfl (.k 6 rfl (.k 7 rfl (.k 8 rfl (.k 38 rfl .nil))))) (.k 1 rfl .nil) ?_
     exact jq
    replace h := ite_f hc5 h
    refine .gv (f_load (n := 0) (o := 4) (off := 0) (p := []) (c := .d (eGLine x2)) (z := .d (eGLine x2)) (by rfl) rfl ty69 (by rfl)) rfl rfl rfl hc5 (.c rfl .nil) (.cons rfl .nil) ?_
    obtain ⟨y6, hy7, h⟩ := bind_some h
    refine .g1 (f_callP hgl (by rfl) en65 rfl (by rfl) (by rfl) (by rfl) (F65_queue_Check_ok hy7)) rfl rfl rfl hc5 rfl ?_
    refine .g2 (f_binI (by rfl) rfl (by rfl)) rfl rfl rfl hc5 rfl rfl ?_
    refine .v2 (f_pick_false (by rfl) hc5) rfl rfl rfl ?_
    refine .v1 (f_move (by rfl)) rfl rfl ?_
    rcases Bool.eq_false_or_eq_true (y6 != (0 : Int)) with hc8 | hc8
    ·replace h := ite_t hc8 h
     refine .q rfl rfl rfl hc8 rfl ?_
     refine .q rfl rfl rfl hc8 rfl ?_
     refine .q rfl rfl rfl hc8 rfl ?_
     refine .offu rfl rfl rfl rfl (by rfl) ?_
     refine .offu rfl rfl rfl rfl (by rfl) ?_
     refine .offu rfl rfl rfl rfl (by rfl) ?_
     refine .offu rfl rfl rfl rfl (by rfl) ?_
     refine .offu rfl rfl rfl rfl (by rfl) ?_
     refine .offu rfl rfl rfl rfl (by rfl) ?_
     refine .offu rfl rfl rfl rfl (by rfl) ?_
     refine .offu rfl rfl rfl rfl (by rfl) ?_
     refine .offu rfl rfl rfl rfl (by rfl) ?_
     refine .offu rfl rfl rfl rfl (by rfl) ?_
     refine .offu rfl rfl rfl rfl (by rfl) ?_
     refine .q rfl rfl rfl hc8 rfl ?_
     refine .v2 (f_pick_true (by rfl) hc8) rfl rfl rfl ?_
     refine .nil (by kernel_rfl) ?_
     obtain rfl := Option.some.inj h
     refine aq_k hb0 (.k 1 rfl (.k 6 rfl (.k 7 rfl (.k 8 rfl (.k 38 rfl .nil))))) (.k 1 rfl .nil) ?_
     exact jq
    replace h := ite_f hc8 h
    refine .g1 (f_move (by rfl)) rfl rfl rfl hc8 rfl ?_
    refine .g2 (f_binI (by rfl) rfl (by rfl)) rfl rfl rfl hc8 rfl rfl ?_
    refine .g1 (f_move (by rfl)) rfl rfl rfl hc8 rfl ?_
    rcases Bool.eq_false_or_eq_true (decide (z0_0 > (0 : Int))) with hc9 | hc9
    ·replace h := ite_t hc9 h
     refine .g1 (f_fieldAddr (n := 0) (by rfl) fl24_0 (by decide)) rfl rfl rfl hc9 rfl ?_
     refine .gv (f_load (n := 0) (o := 1) (off := (0 + 0)) (p := [0]) (c := .d (eGShard a0)) (z := .d (eL22 a0.Lines)) (by rfl) rfl ty22 (by rfl)) rfl rfl rfl hc9 (.c rfl .nil) (.cons rfl .nil) ?_
     refine .g1 (f_move (by rfl)) rfl rfl rfl hc9 rfl ?_
     refine .g2 (f_binI (by rfl) rfl (by rfl)) rfl rfl rfl hc9 rfl rfl ?_
     obtain ⟨x10, hx11, h⟩ := bind_some h
     obtain ⟨hx12, hx11⟩ := rd_some hx11
     refine .g2 (f_indexS (by rfl) sl22 hx12 (rd_map _ hx11)) rfl rfl rfl hc9 rfl rfl ?_
     refine .g1 (f_fieldAddrR (by rfl) fl69_0 (by decide) rfl) rfl rfl rfl hc9 rfl ?_
     refine .g1 (f_loadR (z := (eA46 x10.From)) (by rfl) ty47) rfl rfl rfl hc9 rfl ?_
     refine .g1 (f_fieldAddr (n := 0) (by rfl) fl69_0 (by decide)) rfl rfl rfl hc9 rfl ?_
     refine .gv (f_load (n := 0) (o := 4) (off := (0 + 0)) (p := [0]) (c := .d (eGLine x2)) (z := .d (eA46 x2.From)) (by rfl) rfl ty47 (by rfl)) rfl rfl rfl hc9 (.c rfl .nil) (.cons rfl .nil) ?_
     obtain ⟨y13, hy14, h⟩ := bind_some h
     refine .g2 (f_callP hgl (by rfl) en66 rfl (by rfl) (by rfl) (by rfl) (F66_path_Ahead_ok hy14)) rfl rfl rfl hc9 rfl rfl ?_
     refine .g1 (f_not (by rfl)) rfl rfl rfl hc9 rfl ?_
     refine .g2 (f_pick_true (by rfl) hc9) rfl rfl rfl hc8 rfl rfl ?_
     refine .v2 (f_pick_false (by rfl) hc8) rfl rfl rfl ?_
     refine .nil (by kernel_rfl) ?_
     obtain rfl := Option.some.inj h
     refine aq_k hb0 (.k 1 rfl (.k 6 rfl (.k 7 rfl (.k 8 rfl (.k 38 rfl .nil))))) (.k 1 rfl .nil) ?_
     exact jq
    replace h := ite_f hc9 h
    refine .q rfl rfl rfl hc9 rfl ?_
    refine .q rfl rfl rfl hc9 rfl ?_
    refine .q rfl rfl rfl hc9 rfl ?_
    refine .q rfl rfl rfl hc9 rfl ?_
    refine .q rfl rfl rfl hc9 rfl ?_
    refine .q rfl rfl rfl hc9 rfl ?_
    refine .q rfl rfl rfl hc9 rfl ?_
    refine .q rfl rfl rfl hc9 rfl ?_
    refine .q rfl rfl rfl hc9 rfl ?_
    refine .q rfl rfl rfl hc9 rfl ?_
    refine .q rfl rfl rfl hc9 rfl ?_
    refine .g2 (f_pick_false (by rfl) hc9) rfl rfl rfl hc8 rfl rfl ?_
    refine .v2 (f_pick_false (by rfl) hc8) rfl rfl rfl ?_
    refine .nil (by kernel_rfl) ?_
    obtain rfl := Option.some.inj h
    refine aq_k hb0 (.k 1 rfl (.k 6 rfl (.k 7 rfl (.k 8 rfl (.k 38 rfl .nil))))) (.k 1 rfl .nil) ?_
    exact jq
   refine aq_then ?_
   refine aw_cond rfl (fun hc16 => ?_) (fun hc16 => ?_)
   ·replace h := ite_t hc16 h
    refine aw_rs ?_
    refine .a rfl ?_
    refine .nil (aq_then ?_)
    refine aw_ret ?_
    refine aq_block_ret ?_
    refine aq_then_ret ?_
    obtain rfl := Option.some.inj h
    refine aq_k hb0 (.k 2 rfl .nil) .nil ?_
    exact jq
   replace h := ite_f hc16 h
   refine aw_skip ?_
   refine aq_block ?_
   refine aq_then ?_
   refine aw_r ?_
   refine .b rfl rfl rfl ?_
   refine .m rfl ?_
   refine .nil ?_
   obtain rfl := Option.some.inj h
   refine aq_k hb0 (.k 1 rfl (.k 6 rfl (.k 7 rfl (.k 8 rfl .nil)))) (.k 1 rfl .nil) ?_
   exact jq
  replace h := ite_f hc1 h
  refine aw_exit ?_
  refine aq_then_exit ?_
  obtain rfl := Option.some.inj h
  refine aq_k hb0 .nil .nil ?_
  exact jq
 rcases o18 with j18 | j18
 ·replace h := elim_l h
  refine aq_block_exit ?_
  refine aq_then ?_
  refine aw_rs ?_
  refine .a rfl ?_
  refine .nil (aq_then ?_)
  refine aw_ret ?_
  obtain rfl := Option.some.inj h
  exact aq_finp hb0 rfl (.tmp rfl (by rfl) .nil) (by rfl) rfl ⟨rfl, rfl⟩
 replace h := elim_r h
 refine aq_block_ret ?_
 refine aq_then_ret ?_
 obtain rfl := Option.some.inj h
 exact aq_finp hb0 rfl (.tmp rfl (by rfl) .nil) (by rfl) rfl ⟨rfl, rfl⟩
def F106_pool_Check_1_dd9 (n : Nat) (a0 : GLine) (a1 : (List GShard)) (a2 : Int) : Option (Bool) :=
  ((F26_pool_At n a0.From ((a1).length : Int)).bind fun (y1 : Int × Int) => some (y1.1 != a2))
theorem F106_pool_Check_1_dd9_ok {n : Nat} {a0 : GLine} {a1 : (List GShard)} {a2 : Int} {r : Bool} (h : F106_pool_Check_1_dd9 n a0 a1 a2 = some r) :
    ACall Tryz.prog GS 106 [.d (eGLine a0), .ptr 0 0 [], .ptr 1 0 []] [(0, .av (.d (eL45 a1))), (1, .av (.I a2))] (fun r' hp' => r' = .B r ∧ hp' = [(0, .av (.d (eL45 a1))), (1, .av (.I a2))]) := by
 refine acall_of_body mixed Tryz.func106 rfl (by rfl) ?_
 intro C hro hgl hb0
 unfold F106_pool_Check_1_dd9 at h
 refine aw_rs ?_
 refine .n (f_box 3 (by rfl) (by rfl)) rfl (.c rfl .nil) rfl ?_
 refine .a rfl ?_
 refine .z ?_
 refine .v1 (f_fieldAddr (n := 0) (by rfl) fl69_0 (by decide)) rfl rfl ?_
 refine .l 3 (0 + 0) [0] (.d (eGLine a0)) (.d (eA46 a0.From)) ty47 ?_
 refine .l 0 0 [] (.d (eL45 a1)) (.d (eL45 a1)) ty45 ?_
 refine .v1 (f_lenD (n := (a1).length) (by rfl) sl45 rfl (by simp)) rfl rfl ?_
 obtain ⟨y1, hy2, h⟩ := bind_some h
 refine .v2 (f_callP hgl (by rfl) en26 rfl (by rfl) (by rfl) (by rfl) (F26_pool_At_ok hy2)) rfl rfl rfl ?_
 refine .m rfl ?_
 refine .v1 (f_extract (by rfl) rfl) rfl rfl ?_
 refine .v1 (f_extract (by rfl) rfl) rfl rfl ?_
 refine .a rfl ?_
 refine .a rfl ?_
 refine .z ?_
 refine .m rfl ?_
 refine .l 1 0 [] (.I a2) (.I a2) ty3 ?_
 refine .b rfl rfl rfl ?_
 refine .a rfl ?_
 refine .nil (aq_then ?_)
 refine aw_ret ?_
 obtain rfl := Option.some.inj h
 refine aq_k hb0 (.k 4 rfl .nil) (.k 0 rfl (.k 1 rfl .nil)) ?_
 exact aq_fin1 (.tmp rfl (by rfl) .nil) rfl ⟨rfl, rfl⟩
def F117_api_Line_d1a_s0 (n : Nat) (a0 : (List GLine)) (a1 : (List GShard)) (a2 : Int) (z0_0 : Int) : Option ((Int) ⊕ ((Unit) ⊕ (Int))) :=
  (if (decide (z0_0 < ((a0).length : Int))) = true then ((rd a0 z0_0).bind fun (x2 : GLine) => ((F106_pool_Check_1_dd9 n x2 a1 a2).bind fun (y5 : Bool) => (if y5 = true then some (.inr (.inr z0_0)) else some (.inl (IntKind.i64.wrap (z0_0 + (1 : Int))))))) else some (.inr (.inl ())))
def F117_api_Line_d1a (n : Nat) (a0 : (List GLine)) (a1 : (List GShard)) (a2 : Int) : Option (Int) :=
  ((loopF (fun (z : Int) => F117_api_Line_d1a_s0 n a0 a1 a2 z) n (0 : Int)).bind (Sum.elim (fun (j8 : Unit) => some (-1 : Int)) (fun (j8 : Int) => some j8)))
theorem F117_api_Line_d1a_ok {n : Nat} {a0 : (List GLine)} {a1 : (List GShard)} {a2 : Int} {r : Int} (h : F117_api_Line_d1a n a0 a1 a2 = some r) :
    ACall Tryz.prog GS 117 [.d (eL22 a0), .fn (.func 106) [] [.ptr 0 0 [], .ptr 1 0 []]] [(0, .av (.d (eL45 a1))), (1, .av (.I a2))] (fun r' hp' => r' = .I r ∧ hp' = [(0, .av (.d (eL45 a1))), (1, .av (.I a2))]) := by
 refine acall_of_body mixed Tryz.func117 rfl (by rfl) ?_
 intro C hro hgl hb0
 unfold F117_api_Line_d1a at h
 refine aw_rs ?_
 refine .a rfl ?_
 refine .nil (aq_then ?_)
 refine aw_seq ?_
 refine aw_rs ?_
 refine .m rfl ?_
 refine .v1 (f_lenD (n := (a0).length) (by rfl) sl22 rfl (by simp)) rfl rfl ?_
 refine .m rfl ?_
 refine .nil (aq_then ?_)
 refine aw_block ?_
 refine aw_k hb0 (.k 0 rfl (.k 1 rfl (.k 7 rfl (.k 8 rfl .nil)))) (.k 0 rfl (.k 1 rfl .nil)) ?_
 obtain ⟨o8, ho9, h⟩ := bind_some h
 refine aw_loopX (σ := Int) (fun z => ⟨[(0, .d (eL22 a0)), (1, .fn (.func 106) [] [.ptr 0 0 [], .ptr 1 0 []]), (7, .I ((a0).length : Int)), (8, .I z)], [(0, .av (.d (eL45 a1))), (1, .av (.I a2))], []⟩) (Sum.elim (fun _ => .exit 0) (fun _ => .ret)) (Sum.elim (fun j8 => ⟨[], [(0, .av (.d (eL45 a1))), (1, .av (.I a2))], []⟩) (fun j8 => ⟨[(4, .I j8)], [(0, .av (.d (eL45 a1))), (1, .av (.I a2))], []⟩)) ho9 (by intro b; rcases b with _ | _ <;> rfl) ?_ ?_
 ·clear h ho9
  intro z0_0 o h
  change F117_api_Line_d1a_s0 n a0 a1 a2 z0_0 = some o at h
  unfold F117_api_Line_d1a_s0 at h
  show AW _ _ _ ⟨[(0, .d (eL22 a0)), (1, .fn (.func 106) [] [.ptr 0 0 [], .ptr 1 0 []]), (7, .I ((a0).length : Int)), (8, .I z0_0)], [(0, .av (.d (eL45 a1))), (1, .av (.I a2))], []⟩
  refine aw_rs ?_
  refine .b rfl rfl rfl ?_
  refine .nil (aq_then ?_)
  refine aw_seq ?_
  refine aw_cond rfl (fun hc1 => ?_) (fun hc1 => ?_)
  ·replace h := ite_t hc1 h
   refine aw_skip ?_
   refine aq_then ?_
   refine aw_seq ?_
   refine aw_block ?_
   refine aw_rs ?_
   refine .m rfl ?_
   refine .a rfl ?_
   refine .z ?_
   refine .m rfl ?_
   refine .m rfl ?_
   refine .m rfl ?_
   obtain ⟨x2, hx3, h⟩ := bind_some h
   obtain ⟨hx4, hx3⟩ := rd_some hx3
   refine .v2 (f_indexS (by rfl) sl22 hx4 (rd_map _ hx3)) rfl rfl rfl ?_
   refine .v1 (f_loadR (z := (eGLine x2)) (by rfl) ty69) rfl rfl ?_
   obtain ⟨y5, hy6, h⟩ := bind_some h
   refine .w (f_callG0 (xs := [.d (eGLine x2)]) (r := .B y5) (fun i => i) [] hgl (by rfl) (cal_v (first := []) (caps := [.ptr 0 0 [], .ptr 1 0 []]) en106) rfl (by rfl) (by rfl) (by rfl) (by rfl) (.cons (.same _) (.cons (.same _) (.cons (.same _) .nil))) rfl rfl (F106_pool_Check_1_dd9_ok hy6)) rfl (.c rfl (.c rfl .nil)) (.cons rfl (.cons rfl .nil)) .nil ?_
   refine .nil (aq_then ?_)
   refine aw_cond rfl (fun hc7 => ?_) (fun hc7 => ?_)
   ·replace h := ite_t hc7 h
    refine aw_rs ?_
    refine .m rfl ?_
    refine .a rfl ?_
    refine .nil (aq_then ?_)
    refine aw_ret ?_
    refine aq_block_ret ?_
    refine aq_then_ret ?_
    obtain rfl := Option.some.inj h
    refine aq_k hb0 (.k 4 rfl .nil) (.k 0 rfl (.k 1 rfl .nil)) ?_
    exact jq
   replace h := ite_f hc7 h
   refine aw_skip ?_
   refine aq_block ?_
   refine aq_then ?_
   refine aw_r ?_
   refine .b rfl rfl rfl ?_
   refine .m rfl ?_
   refine .nil ?_
   obtain rfl := Option.some.inj h
   refine aq_k hb0 (.k 0 rfl (.k 1 rfl (.k 7 rfl (.k 8 rfl .nil)))) (.k 0 rfl (.k 1 rfl .nil)) ?_
   exact jq
  replace h := ite_f hc1 h
  refine aw_exit ?_
  refine aq_then_exit ?_
  obtain rfl := Option.some.inj h
  refine aq_k hb0 .nil (.k 0 rfl (.k 1 rfl .nil)) ?_
  exact jq
 rcases o8 with j8 | j8
 ·replace h := elim_l h
  refine aq_block_exit ?_
  refine aq_then ?_
  refine aw_rs ?_
  refine .a rfl ?_
  refine .nil (aq_then ?_)
  refine aw_ret ?_
  obtain rfl := Option.some.inj h
  refine aq_k hb0 (.k 4 rfl .nil) (.k 0 rfl (.k 1 rfl .nil)) ?_
  exact aq_fin1 (.tmp rfl (by rfl) .nil) rfl ⟨rfl, rfl⟩
 replace h := elim_r h
 refine aq_block_ret ?_
 refine aq_then_ret ?_
 obtain rfl := Option.some.inj h
 refine aq_k hb0 (.k 4 rfl .nil) (.k 0 rfl (.k 1 rfl .nil)) ?_
 exact aq_fin1 (.tmp rfl (by rfl) .nil) rfl ⟨rfl, rfl⟩
def F105_api_Line_85c (n : Nat) (a0 : (List GLine)) (a1 : (List GShard)) (a2 : Int) : Option (Bool) :=
  ((F117_api_Line_d1a n a0 a1 a2).bind fun (y1 : Int) => some (decide (y1 ≥ (0 : Int))))
theorem F105_api_Line_85c_ok {n : Nat} {a0 : (List GLine)} {a1 : (List GShard)} {a2 : Int} {r : Bool} (h : F105_api_Line_85c n a0 a1 a2 = some r) :
    ACall Tryz.prog GS 105 [.d (eL22 a0), .fn (.func 106) [] [.ptr 0 0 [], .ptr 1 0 []]] [(0, .av (.d (eL45 a1))), (1, .av (.I a2))] (fun r' hp' => r' = .B r ∧ hp' = [(0, .av (.d (eL45 a1))), (1, .av (.I a2))]) := by
 refine acall_of_body mixed Tryz.func105 rfl (by rfl) ?_
 intro C hro hgl hb0
 unfold F105_api_Line_85c at h
 refine aw_rs ?_
 refine .a rfl ?_
 refine .z ?_
 refine .m rfl ?_
 refine .m rfl ?_
 obtain ⟨y1, hy2, h⟩ := bind_some h
 refine .w (f_callG0 (xs := [.d (eL22 a0), .fn (.func 106) [] [.ptr 0 0 [], .ptr 1 0 []]]) (r := .I y1) (fun i => i) [] hgl (by rfl) (cal_f en117) rfl (by rfl) (by rfl) (by rfl) (by rfl) (.cons (.same _) (.cons (.same _) .nil)) rfl rfl (F117_api_Line_d1a_ok hy2)) rfl (.c rfl (.c rfl .nil)) (.cons rfl (.cons rfl .nil)) .nil ?_
 refine .b rfl rfl rfl ?_
 refine .a rfl ?_
 refine .nil (aq_then ?_)
 refine aw_ret ?_
 obtain rfl := Option.some.inj h
 refine aq_k hb0 (.k 4 rfl .nil) (.k 0 rfl (.k 1 rfl .nil)) ?_
 exact aq_fin1 (.tmp rfl (by rfl) .nil) rfl ⟨rfl, rfl⟩
def F64_pool_Check_s0 (n : Nat) (a0 : (List GShard)) (z0_0 : Int) : Option ((Int) ⊕ ((Unit) ⊕ (Unit))) :=
  (if (decide (z0_0 < ((a0).length : Int))) = true then ((rd a0 z0_0).bind fun (x5 : GShard) => ((((F30_shard_Check n x5).bind fun (y8 : Int) => (if (y8 != (0 : Int)) = true then some true else ((F105_api_Line_85c n x5.Lines a0 z0_0).bind fun (y11 : Bool) => some y11)))).bind fun (o13 : Bool) => (if o13 = true then some (.inr (.inr ())) else some (.inl (IntKind.i64.wrap (z0_0 + (1 : Int))))))) else some (.inr (.inl ())))
def F64_pool_Check (n : Nat) (a0 : (List GShard)) : Option (Int) :=
  (((if (decide (((a0).length : Int) < (1 : Int))) = true then some true else some (decide (((a0).length : Int) > (8 : Int))))).bind fun (o2 : Bool) => (if o2 = true then some (8 : Int) else ((loopF (fun (z : Int) => F64_pool_Check_s0 n a0 z) n (0 : Int)).bind (Sum.elim (fun (j16 : Unit) => some (0 : Int)) (fun (j16 : Unit) => some (8 : Int))))))
theorem F64_pool_Check_ok {n : Nat} {a0 : (List GShard)} {r : Int} (h : F64_pool_Check n a0 = some r) :
    ACall Tryz.prog GS 64 [.d (eL45 a0)] [] (fun r' hp' => r' = .I r ∧ hp' = []) := by
 refine acall_of_body mixed Tryz.func64 rfl (by rfl) ?_
 intro C hro hgl hb0
 unfold F64_pool_Check at h
 refine aw_rs ?_
 refine .n (f_box 1 (by rfl) (by rfl)) rfl (.c rfl .nil) rfl ?_
 refine .a rfl ?_
 refine .nil (aq_then ?_)
 refine aw_seq ?_
 refine aw_seq ?_
 obtain ⟨o2, ho18, h⟩ := bind_some h
 refine aw_join (.normal) ⟨[(1, .ptr 1 0 []), (12, .B o2)], [(1, .av (.d (eL45 a0)))], []⟩ ?_ ?_
 ·replace h := ho18
  refine aw_r ?_
  refine .l 1 0 [] (.d (eL45 a0)) (.d (eL45 a0)) ty45 ?_
  refine .v1 (f_lenD (n := (a0).length) (by rfl) sl45 rfl (by simp)) rfl rfl ?_
  refine .b rfl rfl rfl ?_
  refine .m rfl ?_
  rcases Bool.eq_false_or_eq_true (decide (((a0).length : Int) < (1 : Int))) with hc1 | hc1
  ·replace h := ite_t hc1 h
   refine .q rfl rfl rfl hc1 rfl ?_
   refine .q rfl rfl rfl hc1 rfl ?_
   refine .q rfl rfl rfl hc1 rfl ?_
   refine .v2 (f_pick_true (by rfl) hc1) rfl rfl rfl ?_
   refine .nil ?_
   obtain rfl := Option.some.inj h
   refine aq_k hb0 (.k 1 rfl (.k 12 rfl .nil)) (.k 1 rfl .nil) ?_
   exact jq
  replace h := ite_f hc1 h
  refine .gv (f_load (n := 0) (o := 1) (off := 0) (p := []) (c := .d (eL45 a0)) (z := .d (eL45 a0)) (by rfl) rfl ty45 (by rfl)) rfl rfl rfl hc1 (.c rfl .nil) (.cons rfl .nil) ?_
  refine .g1 (f_lenD (n := (a0).length) (by rfl) sl45 rfl (by simp)) rfl rfl rfl hc1 rfl ?_
  refine .g2 (f_binI (by rfl) rfl (by rfl)) rfl rfl rfl hc1 rfl rfl ?_
  refine .v2 (f_pick_false (by rfl) hc1) rfl rfl rfl ?_
  refine .nil ?_
  obtain rfl := Option.some.inj h
  refine aq_k hb0 (.k 1 rfl (.k 12 rfl .nil)) (.k 1 rfl .nil) ?_
  exact jq
 refine aq_then ?_
 refine aw_cond rfl (fun hc3 => ?_) (fun hc3 => ?_)
 ·replace h := ite_t hc3 h
  refine aw_rs ?_
  refine .a rfl ?_
  refine .nil (aq_then ?_)
  refine aw_ret ?_
  refine aq_then_ret ?_
  obtain rfl := Option.some.inj h
  exact aq_finp hb0 rfl (.tmp rfl (by rfl) .nil) (by rfl) rfl ⟨rfl, rfl⟩
 replace h := ite_f hc3 h
 refine aw_skip ?_
 refine aq_then ?_
 refine aw_seq ?_
 refine aw_rs ?_
 refine .l 1 0 [] (.d (eL45 a0)) (.d (eL45 a0)) ty45 ?_
 refine .v1 (f_lenD (n := (a0).length) (by rfl) sl45 rfl (by simp)) rfl rfl ?_
 refine .m rfl ?_
 refine .nil (aq_then ?_)
 refine aw_block ?_
 refine aw_k hb0 (.k 1 rfl (.k 13 rfl (.k 14 rfl (.k 15 rfl .nil)))) (.k 1 rfl .nil) ?_
 obtain ⟨o16, ho17, h⟩ := bind_some h
 refine aw_loopX (σ := Int) (fun z => ⟨[(1, .ptr 1 0 []), (13, .d (eL45 a0)), (14, .I ((a0).length : Int)), (15, .I z)], [(1, .av (.d (eL45 a0)))], []⟩) (Sum.elim (fun _ => .exit 0) (fun _ => .ret)) (Sum.elim (fun j16 => ⟨[], [], []⟩) (fun j16 => ⟨[(2, .I (8 : Int))], [], []⟩)) ho17 (by intro b; rcases b with _ | _ <;> rfl) ?_ ?_
 ·clear h ho17
  intro z0_0 o h
  change F64_pool_Check_s0 n a0 z0_0 = some o at h
  unfold F64_pool_Check_s0 at h
  show AW _ _ _ ⟨[(1, .ptr 1 0 []), (13, .d (eL45 a0)), (14, .I ((a0).length : Int)), (15, .I z0_0)], [(1, .av (.d (eL45 a0)))], []⟩
  refine aw_rs ?_
  refine .b rfl rfl rfl ?_
  refine .nil (aq_then ?_)
  refine aw_seq ?_
  refine aw_cond rfl (fun hc4 => ?_) (fun hc4 => ?_)
  ·replace h := ite_t hc4 h
   refine aw_skip ?_
   refine aq_then ?_
   refine aw_seq ?_
   refine aw_block ?_
   refine aw_rs ?_
   refine .m rfl ?_
   obtain ⟨x5, hx6, h⟩ := bind_some h
   obtain ⟨hx7, hx6⟩ := rd_some hx6
   refine .v2 (f_indexS (by rfl) sl45 hx7 (rd_map _ hx6)) rfl rfl rfl ?_
   refine .v1 (f_loadR (z := (eGShard x5)) (by rfl) ty24) rfl rfl ?_
   refine .n (f_alloc 3 (by rfl) zr3) rfl .nil rfl ?_
   refine .n (f_alloc 4 (by rfl) zrv24) rfl .nil rfl ?_
   refine .s (f_store (n := 0) (o := 3) (off := 0) (p := []) (c := .I (0 : Int)) (old := .I (0 : Int)) (z := .I z0_0) (c' := .I z0_0) rfl rfl (by rfl) ty3 (by rfl)) rfl (.c rfl (.c rfl .nil)) (.cons rfl .nil) ?_
   refine .s (f_store (n := 0) (o := 4) (off := 0) (p := []) (c := .st [.N]) (old := .st [.N]) (z := .d (eGShard x5)) (c' := .d (eGShard x5)) rfl rfl (by rfl) ty24 (by rfl)) rfl (.c rfl (.c rfl .nil)) (.cons rfl .nil) ?_
   refine .nil (aq_then ?_)
   refine aw_seq ?_
   obtain ⟨o13, ho15, h⟩ := bind_some h
   refine aw_join (.normal) ⟨[(1, .ptr 1 0 []), (13, .d (eL45 a0)), (14, .I ((a0).length : Int)), (15, .I z0_0), (28, .B o13)], [(1, .av (.d (eL45 a0)))], []⟩ ?_ ?_
   ·replace h := ho15
    refine aw_r ?_
    refine .l 4 0 [] (.d (eGShard x5)) (.d (eGShard x5)) ty24 ?_
    obtain ⟨y8, hy9, h⟩ := bind_some h
    refine .v1 (f_callP hgl (by rfl) en30 rfl (by rfl) (by rfl) (by rfl) (F30_shard_Check_ok hy9)) rfl rfl ?_
    refine .b rfl rfl rfl ?_
    refine .m rfl ?_
    rcases Bool.eq_false_or_eq_true (y8 != (0 : Int)) with hc10 | hc10
    ·replace h := ite_t hc10 h
     refine .q rfl rfl rfl hc10 rfl ?_
     refine .q rfl rfl rfl hc10 rfl ?_
     refine .q rfl rfl rfl hc10 rfl ?_
     refine .q rfl rfl rfl hc10 rfl ?_
     refine .v2 (f_pick_true (by rfl) hc10) rfl rfl rfl ?_
     refine .nil ?_
     obtain rfl := Option.some.inj h
     refine aq_k hb0 (.k 1 rfl (.k 13 rfl (.k 14 rfl (.k 15 rfl (.k 28 rfl .nil))))) (.k 1 rfl .nil) ?_
     exact jq
    replace h := ite_f hc10 h
    refine .g1 (f_fieldAddr (n := 0) (by rfl) fl24_0 (by decide)) rfl rfl rfl hc10 rfl ?_
    refine .gv (f_load (n := 0) (o := 4) (off := (0 + 0)) (p := [0]) (c := .d (eGShard x5)) (z := .d (eL22 x5.Lines)) (by rfl) rfl ty22 (by rfl)) rfl rfl rfl hc10 (.c rfl .nil) (.cons rfl .nil) ?_
    refine .g2 (f_makeFunc (xs := []) (ys := [.ptr 1 0 [], .ptr 3 0 []]) (by rfl) rfl rfl (by rfl) (by rfl)) rfl rfl rfl hc10 rfl rfl ?_
    obtain ⟨y11, hy12, h⟩ := bind_some h
    refine .gw (f_callG0 (xs := [.d (eL22 x5.Lines), .fn (.func 106) [] [.ptr 1 0 [], .ptr 3 0 []]]) (r := .B y11) (fun i => bif Nat.beq i 1 then 3 else (bif Nat.beq i 0 then 1 else i)) [] hgl (by rfl) (cal_f en105) rfl (by rfl) (by rfl) (by rfl) (by rfl) (.cons (.same _) (.cons (.same _) .nil)) rfl rfl (F105_api_Line_85c_ok hy12)) rfl rfl rfl hc10 (.c rfl (.c rfl .nil)) (.cons rfl (.cons rfl .nil)) .nil ?_
    refine .v2 (f_pick_false (by rfl) hc10) rfl rfl rfl ?_
    refine .nil ?_
    obtain rfl := Option.some.inj h
    refine aq_k hb0 (.k 1 rfl (.k 13 rfl (.k 14 rfl (.k 15 rfl (.k 28 rfl .nil))))) (.k 1 rfl .nil) ?_
    exact jq
   refine aq_then ?_
   refine aw_cond rfl (fun hc14 => ?_) (fun hc14 => ?_)
   ·replace h := ite_t hc14 h
    refine aw_rs ?_
    refine .a rfl ?_
    refine .nil (aq_then ?_)
    refine aw_ret ?_
    refine aq_block_ret ?_
    refine aq_then_ret ?_
    obtain rfl := Option.some.inj h
    refine aq_k hb0 (.k 2 rfl .nil) .nil ?_
    exact jq
   replace h := ite_f hc14 h
   refine aw_skip ?_
   refine aq_block ?_
   refine aq_then ?_
   refine aw_r ?_
   refine .b rfl rfl rfl ?_
   refine .m rfl ?_
   refine .nil ?_
   obtain rfl := Option.some.inj h
   refine aq_k hb0 (.k 1 rfl (.k 13 rfl (.k 14 rfl (.k 15 rfl .nil)))) (.k 1 rfl .nil) ?_
   exact jq
  replace h := ite_f hc4 h
  refine aw_exit ?_
  refine aq_then_exit ?_
  obtain rfl := Option.some.inj h
  refine aq_k hb0 .nil .nil ?_
  exact jq
 rcases o16 with j16 | j16
 ·replace h := elim_l h
  refine aq_block_exit ?_
  refine aq_then ?_
  refine aw_rs ?_
  refine .a rfl ?_
  refine .nil (aq_then ?_)
  refine aw_ret ?_
  obtain rfl := Option.some.inj h
  exact aq_finp hb0 rfl (.tmp rfl (by rfl) .nil) (by rfl) rfl ⟨rfl, rfl⟩
 replace h := elim_r h
 refine aq_block_ret ?_
 refine aq_then_ret ?_
 obtain rfl := Option.some.inj h
 exact aq_finp hb0 rfl (.tmp rfl (by rfl) .nil) (by rfl) rfl ⟨rfl, rfl⟩
def F118_shard_part_find_1_9b6 (n : Nat) (a0 : GLine) (a1 : (List Int)) : Option (Bool) :=
  ((F66_path_Ahead n a0.From a1).bind fun (y1 : Bool) => some (!y1))
theorem F118_shard_part_find_1_9b6_ok {n : Nat} {a0 : GLine} {a1 : (List Int)} {r : Bool} (h : F118_shard_part_find_1_9b6 n a0 a1 = some r) :
    ACall Tryz.prog GS 118 [.d (eGLine a0), .ptr 0 0 []] [(0, .av (.d (eA46 a1)))] (fun r' hp' => r' = .B r ∧ hp' = [(0, .av (.d (eA46 a1)))]) := by
 refine acall_of_body mixed Tryz.func118 rfl (by rfl) ?_
 intro C hro hgl hb0
 unfold F118_shard_part_find_1_9b6 at h
 refine aw_rs ?_
 refine .n (f_box 2 (by rfl) (by rfl)) rfl (.c rfl .nil) rfl ?_
 refine .a rfl ?_
 refine .z ?_
 refine .v1 (f_fieldAddr (n := 0) (by rfl) fl69_0 (by decide)) rfl rfl ?_
 refine .l 2 (0 + 0) [0] (.d (eGLine a0)) (.d (eA46 a0.From)) ty47 ?_
 refine .l 0 0 [] (.d (eA46 a1)) (.d (eA46 a1)) ty47 ?_
 obtain ⟨y1, hy2, h⟩ := bind_some h
 refine .v2 (f_callP hgl (by rfl) en66 rfl (by rfl) (by rfl) (by rfl) (F66_path_Ahead_ok hy2)) rfl rfl rfl ?_
 refine .v1 (f_not (by rfl)) rfl rfl ?_
 refine .a rfl ?_
 refine .nil (aq_then ?_)
 refine aw_ret ?_
 obtain rfl := Option.some.inj h
 refine aq_k hb0 (.k 3 rfl .nil) (.k 0 rfl .nil) ?_
 exact aq_fin1 (.tmp rfl (by rfl) .nil) rfl ⟨rfl, rfl⟩
def F117_api_Line_250_s0 (n : Nat) (a0 : (List GLine)) (a1 : (List Int)) (z0_0 : Int) : Option ((Int) ⊕ ((Unit) ⊕ (Int))) :=
  (if (decide (z0_0 < ((a0).length : Int))) = true then ((rd a0 z0_0).bind fun (x2 : GLine) => ((F118_shard_part_find_1_9b6 n x2 a1).bind fun (y5 : Bool) => (if y5 = true then some (.inr (.inr z0_0)) else some (.inl (IntKind.i64.wrap (z0_0 + (1 : Int))))))) else some (.inr (.inl ())))
def F117_api_Line_250 (n : Nat) (a0 : (List GLine)) (a1 : (List Int)) : Option (Int) :=
  ((loopF (fun (z : Int) => F117_api_Line_250_s0 n a0 a1 z) n (0 : Int)).bind (Sum.elim (fun (j8 : Unit) => some (-1 : Int)) (fun (j8 : Int) => some j8)))
theorem F117_api_Line_250_ok {n : Nat} {a0 : (List GLine)} {a1 : (List Int)} {r : Int} (h : F117_api_Line_250 n a0 a1 = some r) :
    ACall Tryz.prog GS 117 [.d (eL22 a0), .fn (.func 118) [] [.ptr 0 0 []]] [(0, .av (.d (eA46 a1)))] (fun r' hp' => r' = .I r ∧ hp' = [(0, .av (.d (eA46 a1)))]) := by
 refine acall_of_body mixed Tryz.func117 rfl (by rfl) ?_
 intro C hro hgl hb0
 unfold F117_api_Line_250 at h
 refine aw_rs ?_
 refine .a rfl ?_
 refine .nil (aq_then ?_)
 refine aw_seq ?_
 refine aw_rs ?_
 refine .m rfl ?_
 refine .v1 (f_lenD (n := (a0).length) (by rfl) sl22 rfl (by simp)) rfl rfl ?_
 refine .m rfl ?_
 refine .nil (aq_then ?_)
 refine aw_block ?_
 refine aw_k hb0 (.k 0 rfl (.k 1 rfl (.k 7 rfl (.k 8 rfl .nil)))) (.k 0 rfl .nil) ?_
 obtain ⟨o8, ho9, h⟩ := bind_some h
 refine aw_loopX (σ := Int) (fun z => ⟨[(0, .d (eL22 a0)), (1, .fn (.func 118) [] [.ptr 0 0 []]), (7, .I ((a0).length : Int)), (8, .I z)], [(0, .av (.d (eA46 a1)))], []⟩) (Sum.elim (fun _ => .exit 0) (fun _ => .ret)) (Sum.elim (fun j8 => ⟨[], [(0, .av (.d (eA46 a1)))], []⟩) (fun j8 => ⟨[(4, .I j8)], [(0, .av (.d (eA46 a1)))], []⟩)) ho9 (by intro b; rcases b with _ | _ <;> rfl) ?_ ?_
 ·clear h ho9
  intro z0_0 o h
  change F117_api_Line_250_s0 n a0 a1 z0_0 = some o at h
  unfold F117_api_Line_250_s0 at h
  show AW _ _ _ ⟨[(0, .d (eL22 a0)), (1, .fn (.func 118) [] [.ptr 0 0 []]), (7, .I ((a0).length : Int)), (8, .I z0_0)], [(0, .av (.d (eA46 a1)))], []⟩
  refine aw_rs ?_
  refine .b rfl rfl rfl ?_
  refine .nil (aq_then ?_)
  refine aw_seq ?_
  refine aw_cond rfl (fun hc1 => ?_) (fun hc1 => ?_)
  ·replace h := ite_t hc1 h
   refine aw_skip ?_
   refine aq_then ?_
   refine aw_seq ?_
   refine aw_block ?_
   refine aw_rs ?_
   refine .m rfl ?_
   refine .a rfl ?_
   refine .z ?_
   refine .m rfl ?_
   refine .m rfl ?_
   refine .m rfl ?_
   obtain ⟨x2, hx3, h⟩ := bind_some h
   obtain ⟨hx4, hx3⟩ := rd_some hx3
   refine .v2 (f_indexS (by rfl) sl22 hx4 (rd_map _ hx3)) rfl rfl rfl ?_
   refine .v1 (f_loadR (z := (eGLine x2)) (by rfl) ty69) rfl rfl ?_
   obtain ⟨y5, hy6, h⟩ := bind_some h
   refine .w (f_callG0 (xs := [.d (eGLine x2)]) (r := .B y5) (fun i => i) [] hgl (by rfl) (cal_v (first := []) (caps := [.ptr 0 0 []]) en118) rfl (by rfl) (by rfl) (by rfl) (by rfl) (.cons (.same _) (.cons (.same _) .nil)) rfl rfl (F118_shard_part_find_1_9b6_ok hy6)) rfl (.c rfl (.c rfl .nil)) (.cons rfl .nil) .nil ?_
   refine .nil (aq_then ?_)
   refine aw_cond rfl (fun hc7 => ?_) (fun hc7 => ?_)
   ·replace h := ite_t hc7 h
    refine aw_rs ?_
    refine .m rfl ?_
    refine .a rfl ?_
    refine .nil (aq_then ?_)
    refine aw_ret ?_
    refine aq_block_ret ?_
    refine aq_then_ret ?_
    obtain rfl := Option.some.inj h
    refine aq_k hb0 (.k 4 rfl .nil) (.k 0 rfl .nil) ?_
    exact jq
   replace h := ite_f hc7 h
   refine aw_skip ?_
   refine aq_block ?_
   refine aq_then ?_
   refine aw_r ?_
   refine .b rfl rfl rfl ?_
   refine .m rfl ?_
   refine .nil ?_
   obtain rfl := Option.some.inj h
   refine aq_k hb0 (.k 0 rfl (.k 1 rfl (.k 7 rfl (.k 8 rfl .nil)))) (.k 0 rfl .nil) ?_
   exact jq
  replace h := ite_f hc1 h
  refine aw_exit ?_
  refine aq_then_exit ?_
  obtain rfl := Option.some.inj h
  refine aq_k hb0 .nil (.k 0 rfl .nil) ?_
  exact jq
 rcases o8 with j8 | j8
 ·replace h := elim_l h
  refine aq_block_exit ?_
  refine aq_then ?_
  refine aw_rs ?_
  refine .a rfl ?_
  refine .nil (aq_then ?_)
  refine aw_ret ?_
  obtain rfl := Option.some.inj h
  refine aq_k hb0 (.k 4 rfl .nil) (.k 0 rfl .nil) ?_
  exact aq_fin1 (.tmp rfl (by rfl) .nil) rfl ⟨rfl, rfl⟩
 replace h := elim_r h
 refine aq_block_ret ?_
 refine aq_then_ret ?_
 obtain rfl := Option.some.inj h
 refine aq_k hb0 (.k 4 rfl .nil) (.k 0 rfl .nil) ?_
 exact aq_fin1 (.tmp rfl (by rfl) .nil) rfl ⟨rfl, rfl⟩
def F76_shard_part_find_a8c (n : Nat) (a0 : (List Int)) (a1 : (List GLine)) : Option (Int × Bool) :=
  ((F117_api_Line_250 n a1 a0).bind fun (y1 : Int) => (if (decide (y1 < (0 : Int))) = true then some (((a1).length : Int), false) else ((rd a1 y1).bind fun (x4 : GLine) => some (y1, (decide (x4.From = a0))))))
theorem F76_shard_part_find_a8c_ok {n : Nat} {a0 : (List Int)} {a1 : (List GLine)} {r : Int × Bool} (h : F76_shard_part_find_a8c n a0 a1 = some r) :
    ACall Tryz.prog GS 76 [.ptr 0 0 [], .d (eA46 a0)] [(0, .av (.st [.st [.slc 1 0 ((a1).length) 33]])), (1, .av (.d (.arr 33 ((a1).length) ((a1).map eGLine))))] (fun r' hp' => r' = .res [.I r.1, .B r.2] ∧ hp' = [(0, .av (.st [.st [.slc 1 0 ((a1).length) 33]])), (1, .av (.d (.arr 33 ((a1).length) ((a1).map eGLine))))]) := by
 refine acall_of_body mixed Tryz.func76 rfl (by rfl) ?_
 intro C hro hgl hb0
 unfold F76_shard_part_find_a8c at h
 refine aw_rs ?_
 refine .n (f_box 3 (by rfl) (by rfl)) rfl (.c rfl .nil) rfl ?_
 refine .a rfl ?_
 refine .a rfl ?_
 refine .z ?_
 refine .m rfl ?_
 refine .v1 (f_nilCheck (by rfl)) rfl rfl ?_
 refine .v1 (f_fieldAddr (n := 0) (by rfl) fl78_0 (by decide)) rfl rfl ?_
 refine .v1 (f_fieldAddr (n := 0) (by rfl) fl24_0 (by decide)) rfl rfl ?_
 refine .l 0 ((0 + 0) + 0) [0, 0] (.st [.st [.slc 1 0 ((a1).length) 33]]) (.slc 1 0 ((a1).length) 33) ty22 ?_
 refine .v1 (f_makeFunc (xs := []) (ys := [.ptr 3 0 []]) (by rfl) rfl rfl (by rfl) (by rfl)) rfl rfl ?_
 obtain ⟨y1, hy2, h⟩ := bind_some h
 refine .w (f_callH0 (xs := [.slc 1 0 ((a1).length) 33, .fn (.func 118) [] [.ptr 3 0 []]]) (r := .I y1) (hr := [(3, .av (.d (eA46 a0)))]) (fun i => bif Nat.beq i 0 then 3 else i) [(1, (.arr 33 ((a1).length) ((a1).map eGLine)))] hgl (by rfl) (cal_f en117) rfl (by rfl) (by rfl) (by rfl) (by rfl) (by rfl) (.cons (.whole (.head _)) (.cons (.same _) .nil)) rfl rfl (flat_val) ⟨(fl_eA46 _), trivial⟩ (F117_api_Line_250_ok hy2)) rfl (.c rfl (.c rfl .nil)) (.cons rfl (.cons rfl .nil)) .nil ?_
 refine .a rfl ?_
 refine .nil (aq_then ?_)
 refine aw_seq ?_
 refine aw_rs ?_
 refine .m rfl ?_
 refine .b rfl rfl rfl ?_
 refine .nil (aq_then ?_)
 refine aw_cond rfl (fun hc3 => ?_) (fun hc3 => ?_)
 ·replace h := ite_t hc3 h
  refine aw_rs ?_
  refine .m rfl ?_
  refine .v1 (f_nilCheck (by rfl)) rfl rfl ?_
  refine .v1 (f_fieldAddr (n := 0) (by rfl) fl78_0 (by decide)) rfl rfl ?_
  refine .v1 (f_fieldAddr (n := 0) (by rfl) fl24_0 (by decide)) rfl rfl ?_
  refine .l 0 ((0 + 0) + 0) [0, 0] (.st [.st [.slc 1 0 ((a1).length) 33]]) (.slc 1 0 ((a1).length) 33) ty22 ?_
  refine .v1 (f_lenO (by rfl) sl22 rfl) rfl rfl ?_
  refine .a rfl ?_
  refine .a rfl ?_
  refine .nil (aq_then ?_)
  refine aw_ret ?_
  refine aq_then_ret ?_
  obtain rfl := Option.some.inj h
  refine aq_k hb0 (.k 4 rfl (.k 5 rfl .nil)) (.k 0 rfl (.k 1 rfl .nil)) ?_
  exact aq_fin1 (.tmp rfl (by rfl) (.tmp rfl (by rfl) .nil)) rfl ⟨rfl, rfl⟩
 replace h := ite_f hc3 h
 refine aw_skip ?_
 refine aq_then ?_
 refine aw_rds ?_
 refine .v1 (f_move (by rfl)) rfl rfl ?_
 refine .v1 (f_move (by rfl)) rfl rfl ?_
 refine .v1 (f_nilCheck (by rfl)) rfl rfl ?_
 refine .v1 (f_fieldAddr (n := 0) (by rfl) fl78_0 (by decide)) rfl rfl ?_
 refine .v1 (f_fieldAddr (n := 0) (by rfl) fl24_0 (by decide)) rfl rfl ?_
 refine .v (f_load (n := 0) (o := 0) (off := ((0 + 0) + 0)) (p := [0, 0]) (c := .st [.st [.slc 1 0 ((a1).length) 33]]) (z := .slc 1 0 ((a1).length) 33) (by rfl) rfl ty22 (by rfl)) rfl (.c rfl .nil) (.cons rfl .nil) ?_
 refine .v1 (f_move (by rfl)) rfl rfl ?_
 obtain ⟨x4, hx5, h⟩ := bind_some h
 obtain ⟨hx6, hx5⟩ := rd_some hx5
 refine .v (f_indexSW (by rfl) sl22 hx6 (rd_map _ hx5)) rfl (.c rfl (.c rfl .nil)) (.cons rfl .nil) ?_
 refine .v1 (f_fieldAddr (n := 0) (by rfl) fl69_0 (by decide)) rfl rfl ?_
 refine .v (f_load (n := 0) (o := 1) (off := (((0 + (y1).toNat) * 33) + 0)) (p := [0 + (y1).toNat, 0]) (c := .d (.arr 33 ((a1).length) ((a1).map eGLine))) (z := .d (eA46 x4.From)) (by rfl) (at_map2 eGLine (by simpa using hx5) rfl rfl) ty47 (by rfl)) rfl (.c rfl .nil) (.cons rfl .nil) ?_
 refine .v (f_load (n := 0) (o := 3) (off := 0) (p := []) (c := .d (eA46 a0)) (z := .d (eA46 a0)) (by rfl) rfl ty47 (by rfl)) rfl (.c rfl .nil) (.cons rfl .nil) ?_
 refine .v2 (f_eqlT (by rfl) (fit47 _) (fit47 _) (by rfl) (by rfl) gd47 (eq_eA46 _ _)) rfl rfl rfl ?_
 refine .v1 (f_assign (by rfl)) rfl rfl ?_
 refine .v1 (f_assign (by rfl)) rfl rfl ?_
 refine .nil (by kernel_rfl) ?_
 refine aw_ret ?_
 obtain rfl := Option.some.inj h
 refine aq_k hb0 (.k 4 rfl (.k 5 rfl .nil)) (.k 0 rfl (.k 1 rfl .nil)) ?_
 exact aq_fin1 (.tmp rfl (by rfl) (.tmp rfl (by rfl) .nil)) rfl ⟨rfl, rfl⟩
def F45_shard_part_line_4f5 (n : Nat) (a0 : (List Int)) (a1 : (List GLine)) : Option (GLine) :=
  ((F76_shard_part_find_a8c n a0 a1).bind fun (y1 : Int × Bool) => (if (!y1.2) = true then some (⟨a0, []⟩ : GLine) else ((rd a1 y1.1).bind fun (x4 : GLine) => some x4)))
theorem F45_shard_part_line_4f5_ok {n : Nat} {a0 : (List Int)} {a1 : (List GLine)} {r : GLine} (h : F45_shard_part_line_4f5 n a0 a1 = some r) :
    ACall Tryz.prog GS 45 [.ptr 0 0 [], .d (eA46 a0)] [(0, .av (.st [.st [.slc 1 0 ((a1).length) 33]])), (1, .av (.d (.arr 33 ((a1).length) ((a1).map eGLine))))] (fun r' hp' => r' = .d (eGLine r) ∧ hp' = [(4, .av (.d (eGLine r))), (0, .av (.st [.st [.slc 1 0 ((a1).length) 33]])), (1, .av (.d (.arr 33 ((a1).length) ((a1).map eGLine))))]) := by
 refine acall_of_body mixed Tryz.func45 rfl (by rfl) ?_
 intro C hro hgl hb0
 unfold F45_shard_part_line_4f5 at h
 refine aw_rs ?_
 refine .n (f_box 3 (by rfl) (by rfl)) rfl (.c rfl .nil) rfl ?_
 refine .n (f_alloc 4 (by rfl) zrv69) rfl .nil rfl ?_
 refine .z ?_
 refine .m rfl ?_
 refine .l 3 0 [] (.d (eA46 a0)) (.d (eA46 a0)) ty47 ?_
 obtain ⟨y1, hy2, h⟩ := bind_some h
 refine .w (f_callG0 (xs := [.ptr 0 0 [], .d (eA46 a0)]) (r := .res [.I y1.1, .B y1.2]) (fun i => i) [] hgl (by rfl) (cal_f en76) rfl (by rfl) (by rfl) (by rfl) (by rfl) (.cons (.same _) (.cons (.same _) .nil)) rfl rfl (F76_shard_part_find_a8c_ok hy2)) rfl (.c rfl (.c rfl .nil)) (.cons rfl (.cons rfl .nil)) .nil ?_
 refine .m rfl ?_
 refine .v1 (f_extract (by rfl) rfl) rfl rfl ?_
 refine .v1 (f_extract (by rfl) rfl) rfl rfl ?_
 refine .a rfl ?_
 refine .a rfl ?_
 refine .nil (aq_then ?_)
 refine aw_seq ?_
 refine aw_rs ?_
 refine .m rfl ?_
 refine .v1 (f_not (by rfl)) rfl rfl ?_
 refine .nil (aq_then ?_)
 refine aw_cond rfl (fun hc3 => ?_) (fun hc3 => ?_)
 ·replace h := ite_t hc3 h
  refine aw_rs ?_
  refine .l 3 0 [] (.d (eA46 a0)) (.d (eA46 a0)) ty47 ?_
  refine .v1 (f_build (xs := [(0, .d (eA46 a0))]) (z' := .st [.d (eA46 a0), .N]) (by rfl) zrv69 ag69 rfl (by rfl) ⟨_, _, _, rfl, pl69_0, rfl, rfl, trivial⟩ (by rfl) (by rfl)) rfl rfl ?_
  refine .s (f_store (n := 0) (o := 4) (off := 0) (p := []) (c := .st [.d (eA46 (List.replicate 32 (0 : Int))), .N]) (old := .st [.d (eA46 (List.replicate 32 (0 : Int))), .N]) (z := .st [.d (eA46 a0), .N]) (c' := .st [.d (eA46 a0), .N]) rfl rfl (by rfl) ty69 (by rfl)) rfl (.c rfl (.c rfl .nil)) (.cons rfl .nil) ?_
  refine .nil (aq_then ?_)
  refine aw_ret ?_
  refine aq_then_ret ?_
  obtain rfl := Option.some.inj h
  refine aq_freezeH [] [(4, .ptr 4 0 [])] [(4, .av (.d (eGLine (⟨a0, []⟩ : GLine))))] .nil (.keep rfl .nil) (.cons rfl (by rfl) (.st (.cons (.same _) (.cons .nil .nil))) .nil) ?_
  refine aq_k hb0 (.k 4 rfl .nil) (.k 4 rfl (.k 0 rfl (.k 1 rfl .nil))) ?_
  exact aq_fin1 (.cell rfl rfl ty69 (by rfl) .nil) rfl ⟨rfl, rfl⟩
 replace h := ite_f hc3 h
 refine aw_skip ?_
 refine aq_then ?_
 refine aw_rs ?_
 refine .m rfl ?_
 refine .v1 (f_nilCheck (by rfl)) rfl rfl ?_
 refine .v1 (f_fieldAddr (n := 0) (by rfl) fl78_0 (by decide)) rfl rfl ?_
 refine .v1 (f_fieldAddr (n := 0) (by rfl) fl24_0 (by decide)) rfl rfl ?_
 refine .l 0 ((0 + 0) + 0) [0, 0] (.st [.st [.slc 1 0 ((a1).length) 33]]) (.slc 1 0 ((a1).length) 33) ty22 ?_
 refine .m rfl ?_
 obtain ⟨x4, hx5, h⟩ := bind_some h
 obtain ⟨hx6, hx5⟩ := rd_some hx5
 refine .v (f_indexSW (by rfl) sl22 hx6 (rd_map _ hx5)) rfl (.c rfl (.c rfl .nil)) (.cons rfl .nil) ?_
 refine .v (f_load (n := 0) (o := 1) (off := ((0 + (y1.1).toNat) * 33)) (p := [0 + (y1.1).toNat]) (c := .d (.arr 33 ((a1).length) ((a1).map eGLine))) (z := .d (eGLine x4)) (by rfl) (at_map _ (by simpa using hx5) rfl) ty69 (by rfl)) rfl (.c rfl .nil) (.cons rfl .nil) ?_
 refine .s (f_store (n := 0) (o := 4) (off := 0) (p := []) (c := .st [.d (eA46 (List.replicate 32 (0 : Int))), .N]) (old := .st [.d (eA46 (List.replicate 32 (0 : Int))), .N]) (z := .d (eGLine x4)) (c' := .d (eGLine x4)) rfl rfl (by rfl) ty69 (by rfl)) rfl (.c rfl (.c rfl .nil)) (.cons rfl .nil) ?_
 refine .nil (aq_then ?_)
 refine aw_ret ?_
 obtain rfl := Option.some.inj h
 refine aq_k hb0 (.k 4 rfl .nil) (.k 4 rfl (.k 0 rfl (.k 1 rfl .nil))) ?_
 exact aq_fin1 (.cell rfl rfl ty69 (by rfl) .nil) rfl ⟨rfl, rfl⟩
def F44_queue_Put (n : Nat) (a0 : GLine) (a1 : GTx) : Option (GLine × (List GTx) × Int) :=
  ((F65_queue_Check n a0).bind fun (y1 : Int) => (if (y1 != (0 : Int)) = true then some ((⟨(List.replicate 32 (0 : Int)), []⟩ : GLine), [], (8 : Int)) else ((F90_queue_own n a1 a0.From).bind fun (y4 : Bool) => (if (!y4) = true then some ((⟨(List.replicate 32 (0 : Int)), []⟩ : GLine), [], (2 : Int)) else ((F72_queue_nonces n a0).bind fun (y7 : (List GTx)) => ((F73_api_Tx_ahead_f93 n y7 a1.Nonce).bind fun (y9 : Int) => ((F69_queue_Twin n a0).bind fun (y11 : (List Int) × List GTx) => (((if (decide (y9 < ((a0.Txs).length : Int))) = true then ((rd a0.Txs y9).bind fun (x14 : GTx) => some (x14.Nonce == a1.Nonce)) else some false)).bind fun (o17 : Bool) => (if o17 = true then ((rd a0.Txs y9).bind fun (x19 : GTx) => (if (decide (a1.Fee ≤ x19.Fee)) = true then some ((⟨(List.replicate 32 (0 : Int)), []⟩ : GLine), [], (190 : Int)) else ((rd y11.2 y9).bind fun (x23 : GTx) => ((rd a0.Txs y9).bind fun (x26 : GTx) => some ((⟨y11.1, (y11.2.set (0 + (y9).toNat) a1)⟩ : GLine), ([x26] : List GTx), (0 : Int)))))) else (if (((a0.Txs).length : Int) == (256 : Int)) = true then some ((⟨(List.replicate 32 (0 : Int)), []⟩ : GLine), [], (9 : Int)) else ((F91_Insert n y9 y11.2 ([a1] : List GTx)).bind fun (y30 : List GTx) => some ((⟨y11.1, y30⟩ : GLine), [], (0 : Int)))))))))))))
theorem F44_queue_Put_ok {n : Nat} {a0 : GLine} {a1 : GTx} {r : GLine × (List GTx) × Int} (h : F44_queue_Put n a0 a1 = some r) :
    ACall Tryz.prog GS 44 [.d (eGLine a0), .d (eGTx a1)] [] (fun r' hp' => r' = .res [.d (eGLine r.1), .d (eL28 r.2.1), .I r.2.2] ∧ hp' = []) := by
 refine acall_of_body mixed Tryz.func44 rfl (by rfl) ?_
 intro C hro hgl hb0
 unfold F44_queue_Put at h
 refine aw_rs ?_
 refine .n (f_box 2 (by rfl) (by rfl)) rfl (.c rfl .nil) rfl ?_
 refine .n (f_box 3 (by rfl) (by rfl)) rfl (.c rfl .nil) rfl ?_
 refine .n (f_alloc 4 (by rfl) zrv69) rfl .nil rfl ?_
 refine .a rfl ?_
 refine .a rfl ?_
 refine .nil (aq_then ?_)
 refine aw_seq ?_
 refine aw_block ?_
 refine aw_rs ?_
 refine .l 2 0 [] (.d (eGLine a0)) (.d (eGLine a0)) ty69 ?_
 obtain ⟨y1, hy2, h⟩ := bind_some h
 refine .v1 (f_callP hgl (by rfl) en65 rfl (by rfl) (by rfl) (by rfl) (F65_queue_Check_ok hy2)) rfl rfl ?_
 refine .b rfl rfl rfl ?_
 refine .a rfl ?_
 refine .nil (aq_then ?_)
 refine aw_cond rfl (fun hc3 => ?_) (fun hc3 => ?_)
 ·replace h := ite_t hc3 h
  refine aw_rs ?_
  refine .l 4 0 [] (.st [.d (eA46 (List.replicate 32 (0 : Int))), .N]) (.st [.d (eA46 (List.replicate 32 (0 : Int))), .N]) ty69 ?_
  refine .s (f_store (n := 0) (o := 4) (off := 0) (p := []) (c := .st [.d (eA46 (List.replicate 32 (0 : Int))), .N]) (old := .st [.d (eA46 (List.replicate 32 (0 : Int))), .N]) (z := .st [.d (eA46 (List.replicate 32 (0 : Int))), .N]) (c' := .st [.d (eA46 (List.replicate 32 (0 : Int))), .N]) rfl rfl (by rfl) ty69 (by rfl)) rfl (.c rfl (.c rfl .nil)) (.cons rfl .nil) ?_
  refine .a rfl ?_
  refine .a rfl ?_
  refine .nil (aq_then ?_)
  refine aw_ret ?_
  refine aq_block_ret ?_
  refine aq_then_ret ?_
  obtain rfl := Option.some.inj h
  refine aq_freezeH [] [(4, .ptr 4 0 []), (5, .d (eL28 ([]))), (6, .I (8 : Int))] [(4, .av (.d (eGLine (⟨(List.replicate 32 (0 : Int)), []⟩ : GLine))))] .nil (.keep rfl (.cons rfl .nil (.keep rfl .nil))) (.cons rfl (by rfl) (.st (.cons (.same _) (.cons .nil .nil))) .nil) ?_
  exact aq_finp hb0 rfl (.cell rfl rfl ty69 (by rfl) (.tmp rfl (by rfl) (.tmp rfl (by rfl) .nil))) (by rfl) rfl ⟨rfl, rfl⟩
 replace h := ite_f hc3 h
 refine aw_rs ?_
 refine .l 3 0 [] (.d (eGTx a1)) (.d (eGTx a1)) ty50 ?_
 refine .v1 (f_fieldAddr (n := 0) (by rfl) fl69_0 (by decide)) rfl rfl ?_
 refine .l 2 (0 + 0) [0] (.d (eGLine a0)) (.d (eA46 a0.From)) ty47 ?_
 obtain ⟨y4, hy5, h⟩ := bind_some h
 refine .v2 (f_callP hgl (by rfl) en90 rfl (by rfl) (by rfl) (by rfl) (F90_queue_own_ok hy5)) rfl rfl rfl ?_
 refine .v1 (f_not (by rfl)) rfl rfl ?_
 refine .a rfl ?_
 refine .nil (aq_then ?_)
 refine aw_cond rfl (fun hc6 => ?_) (fun hc6 => ?_)
 ·replace h := ite_t hc6 h
  refine aw_rs ?_
  refine .l 4 0 [] (.st [.d (eA46 (List.replicate 32 (0 : Int))), .N]) (.st [.d (eA46 (List.replicate 32 (0 : Int))), .N]) ty69 ?_
  refine .s (f_store (n := 0) (o := 4) (off := 0) (p := []) (c := .st [.d (eA46 (List.replicate 32 (0 : Int))), .N]) (old := .st [.d (eA46 (List.replicate 32 (0 : Int))), .N]) (z := .st [.d (eA46 (List.replicate 32 (0 : Int))), .N]) (c' := .st [.d (eA46 (List.replicate 32 (0 : Int))), .N]) rfl rfl (by rfl) ty69 (by rfl)) rfl (.c rfl (.c rfl .nil)) (.cons rfl .nil) ?_
  refine .a rfl ?_
  refine .a rfl ?_
  refine .nil (aq_then ?_)
  refine aw_ret ?_
  refine aq_block_ret ?_
  refine aq_then_ret ?_
  obtain rfl := Option.some.inj h
  refine aq_freezeH [] [(4, .ptr 4 0 []), (5, .d (eL28 ([]))), (6, .I (2 : Int))] [(4, .av (.d (eGLine (⟨(List.replicate 32 (0 : Int)), []⟩ : GLine))))] .nil (.keep rfl (.cons rfl .nil (.keep rfl .nil))) (.cons rfl (by rfl) (.st (.cons (.same _) (.cons .nil .nil))) .nil) ?_
  exact aq_finp hb0 rfl (.cell rfl rfl ty69 (by rfl) (.tmp rfl (by rfl) (.tmp rfl (by rfl) .nil))) (by rfl) rfl ⟨rfl, rfl⟩
 replace h := ite_f hc6 h
 refine aw_skip ?_
 refine aq_block ?_
 refine aq_then ?_
 refine aw_rds ?_
 refine .v (f_load (n := 0) (o := 2) (off := 0) (p := []) (c := .d (eGLine a0)) (z := .d (eGLine a0)) (by rfl) rfl ty69 (by rfl)) rfl (.c rfl .nil) (.cons rfl .nil) ?_
 obtain ⟨y7, hy8, h⟩ := bind_some h
 refine .w (f_callG (xs := [.d (eGLine a0)]) (r := .st [.d (eL28 y7), .fn (.func 115) [] []]) (hw := [(1095, .av (.st [.d (eL28 y7), .fn (.func 115) [] []]))]) (fun i => bif Nat.beq i 2 then 1095 else i) [] hgl (by rfl) (cal_f en72) rfl (by rfl) (by rfl) (by rfl) (by rfl) (.cons (.same _) .nil) rfl rfl rfl rfl (F72_queue_nonces_ok hy8)) rfl (.c rfl .nil) .nil (.cons rfl .nil) ?_
 refine .v1 (f_fieldAddr (n := 64) (by rfl) fl50_2 (by decide)) rfl rfl ?_
 refine .v (f_load (n := 0) (o := 3) (off := (0 + 64)) (p := [2]) (c := .d (eGTx a1)) (z := .U a1.Nonce) (by rfl) rfl ty48 (by rfl)) rfl (.c rfl .nil) (.cons rfl .nil) ?_
 obtain ⟨y9, hy10, h⟩ := bind_some h
 refine .w (f_callG0 (xs := [.st [.d (eL28 y7), .fn (.func 115) [] []], .U a1.Nonce]) (r := .I y9) (fun i => i) [] hgl (by rfl) (cal_f en73) rfl (by rfl) (by rfl) (by rfl) (by rfl) (.cons (.same _) (.cons (.same _) .nil)) rfl rfl (F73_api_Tx_ahead_f93_ok hy10)) rfl (.c rfl (.c rfl .nil)) .nil .nil ?_
 refine .v1 (f_assign (by rfl)) rfl rfl ?_
 refine .nil (by kernel_rfl) ?_
 refine aw_rs ?_
 refine .l 2 0 [] (.d (eGLine a0)) (.d (eGLine a0)) ty69 ?_
 obtain ⟨y11, hy12, h⟩ := bind_some h
 refine .w (f_callG (xs := [.d (eGLine a0)]) (r := .st [.d (eA46 y11.1), .slc 1097 0 ((y11.2).length) 99]) (hw := [(1096, .av (.st [.d (eA46 y11.1), .slc 1097 0 ((y11.2).length) 99])), (1097, .av (.d (.arr 99 ((y11.2).length) ((y11.2).map eGTx))))]) (fun i => bif Nat.beq i 1077 then 1097 else (bif Nat.beq i 2 then 1096 else i)) [] hgl (by rfl) (cal_f en69) rfl (by rfl) (by rfl) (by rfl) (by rfl) (.cons (.same _) .nil) rfl rfl rfl rfl (F69_queue_Twin_ok hy12)) rfl (.c rfl .nil) .nil (.cons rfl (.cons rfl .nil)) ?_
 refine .s (f_store (n := 0) (o := 4) (off := 0) (p := []) (c := .st [.d (eA46 (List.replicate 32 (0 : Int))), .N]) (old := .st [.d (eA46 (List.replicate 32 (0 : Int))), .N]) (z := .st [.d (eA46 y11.1), .slc 1097 0 ((y11.2).length) 99]) (c' := .st [.d (eA46 y11.1), .slc 1097 0 ((y11.2).length) 99]) rfl rfl (by rfl) ty69 (by rfl)) rfl (.c rfl (.c rfl .nil)) (.cons rfl .nil) ?_
 refine .nil (aq_then ?_)
 refine aw_seq ?_
 refine aw_seq ?_
 obtain ⟨o17, ho32, h⟩ := bind_some h
 refine aw_join (.normal) ⟨[(2, .ptr 2 0 []), (3, .ptr 3 0 []), (4, .ptr 4 0 []), (7, .I y9), (42, .B o17)], [(2, .av (.d (eGLine a0))), (3, .av (.d (eGTx a1))), (4, .av (.st [.d (eA46 y11.1), .slc 1097 0 ((y11.2).length) 99])), (1097, .av (.d (.arr 99 ((y11.2).length) ((y11.2).map eGTx))))], []⟩ ?_ ?_
 ·replace h := ho32
  refine aw_rd ?_
  refine .v1 (f_move (by rfl)) rfl rfl ?_
  refine .v1 (f_fieldAddr (n := 32) (by rfl) fl69_1 (by decide)) rfl rfl ?_
  refine .v (f_load (n := 0) (o := 2) (off := (0 + 32)) (p := [1]) (c := .d (eGLine a0)) (z := .d (eL28 a0.Txs)) (by rfl) rfl ty28 (by rfl)) rfl (.c rfl .nil) (.cons rfl .nil) ?_
  refine .v1 (f_lenD (n := (a0.Txs).length) (by rfl) sl28 rfl (by simp)) rfl rfl ?_
  refine .v2 (f_binI (by rfl) rfl (by rfl)) rfl rfl rfl ?_
  refine .v1 (f_move (by rfl)) rfl rfl ?_
  rcases Bool.eq_false_or_eq_true (decide (y9 < ((a0.Txs).length : Int))) with hc13 | hc13
  ·replace h := ite_t hc13 h
   refine .g1 (f_fieldAddr (n := 32) (by rfl) fl69_1 (by decide)) rfl rfl rfl hc13 rfl ?_
   refine .gv (f_load (n := 0) (o := 2) (off := (0 + 32)) (p := [1]) (c := .d (eGLine a0)) (z := .d (eL28 a0.Txs)) (by rfl) rfl ty28 (by rfl)) rfl rfl rfl hc13 (.c rfl .nil) (.cons rfl .nil) ?_
   refine .g1 (f_move (by rfl)) rfl rfl rfl hc13 rfl ?_
   obtain ⟨x14, hx15, h⟩ := bind_some h
   obtain ⟨hx16, hx15⟩ := rd_some hx15
   refine .g2 (f_indexS (by rfl) sl28 hx16 (rd_map _ hx15)) rfl rfl rfl hc13 rfl rfl ?_
   refine .g1 (f_fieldAddrR (by rfl) fl50_2 (by decide) rfl) rfl rfl rfl hc13 rfl ?_
   refine .g1 (f_loadR (z := (.val (.int .u64 x14.Nonce))) (by rfl) ty48) rfl rfl rfl hc13 rfl ?_
   refine .g1 (f_fieldAddr (n := 64) (by rfl) fl50_2 (by decide)) rfl rfl rfl hc13 rfl ?_
   refine .gv (f_load (n := 0) (o := 3) (off := (0 + 64)) (p := [2]) (c := .d (eGTx a1)) (z := .U a1.Nonce) (by rfl) rfl ty48 (by rfl)) rfl rfl rfl hc13 (.c rfl .nil) (.cons rfl .nil) ?_
   refine .g2 (f_binI (by rfl) rfl (by rfl)) rfl rfl rfl hc13 rfl rfl ?_
   refine .v2 (f_pick_true (by rfl) hc13) rfl rfl rfl ?_
   refine .nil (by kernel_rfl) ?_
   obtain rfl := Option.some.inj h
   refine aq_k hb0 (.k 2 rfl (.k 3 rfl (.k 4 rfl (.k 7 rfl (.k 42 rfl .nil))))) (.k 2 rfl (.k 3 rfl (.k 4 rfl (.k 1097 rfl .nil)))) ?_
   exact jq
  replace h := ite_f hc13 h
  refine .q rfl rfl rfl hc13 rfl ?_
  refine .q rfl rfl rfl hc13 rfl ?_
  refine .q rfl rfl rfl hc13 rfl ?_
  refine .q rfl rfl rfl hc13 rfl ?_
  refine .q rfl rfl rfl hc13 rfl ?_
  refine .q rfl rfl rfl hc13 rfl ?_
  refine .q rfl rfl rfl hc13 rfl ?_
  refine .q rfl rfl rfl hc13 rfl ?_
  refine .q rfl rfl rfl hc13 rfl ?_
  refine .v2 (f_pick_false (by rfl) hc13) rfl rfl rfl ?_
  refine .nil (by kernel_rfl) ?_
  obtain rfl := Option.some.inj h
  refine aq_k hb0 (.k 2 rfl (.k 3 rfl (.k 4 rfl (.k 7 rfl (.k 42 rfl .nil))))) (.k 2 rfl (.k 3 rfl (.k 4 rfl (.k 1097 rfl .nil)))) ?_
  exact jq
 refine aq_then ?_
 refine aw_cond rfl (fun hc18 => ?_) (fun hc18 => ?_)
 ·replace h := ite_t hc18 h
  refine aw_seq ?_
  refine aw_rds ?_
  refine .v1 (f_fieldAddr (n := 66) (by rfl) fl50_4 (by decide)) rfl rfl ?_
  refine .v (f_load (n := 0) (o := 3) (off := (0 + 66)) (p := [4]) (c := .d (eGTx a1)) (z := .U a1.Fee) (by rfl) rfl ty48 (by rfl)) rfl (.c rfl .nil) (.cons rfl .nil) ?_
  refine .v1 (f_fieldAddr (n := 32) (by rfl) fl69_1 (by decide)) rfl rfl ?_
  refine .v (f_load (n := 0) (o := 2) (off := (0 + 32)) (p := [1]) (c := .d (eGLine a0)) (z := .d (eL28 a0.Txs)) (by rfl) rfl ty28 (by rfl)) rfl (.c rfl .nil) (.cons rfl .nil) ?_
  refine .v1 (f_move (by rfl)) rfl rfl ?_
  obtain ⟨x19, hx20, h⟩ := bind_some h
  obtain ⟨hx21, hx20⟩ := rd_some hx20
  refine .v2 (f_indexS (by rfl) sl28 hx21 (rd_map _ hx20)) rfl rfl rfl ?_
  refine .v1 (f_fieldAddrR (by rfl) fl50_4 (by decide) rfl) rfl rfl ?_
  refine .v1 (f_loadR (z := (.val (.int .u64 x19.Fee))) (by rfl) ty48) rfl rfl ?_
  refine .v2 (f_binI (by rfl) rfl (by rfl)) rfl rfl rfl ?_
  refine .nil (by kernel_rfl) ?_
  refine aw_cond rfl (fun hc22 => ?_) (fun hc22 => ?_)
  ·replace h := ite_t hc22 h
   refine aw_rs ?_
   refine .v (f_build (xs := []) (z' := .st [.d (eA46 (List.replicate 32 (0 : Int))), .N]) (by rfl) zrv69 ag69 rfl (by rfl) trivial (by rfl) (by rfl)) rfl .nil .nil ?_
   refine .s (f_store (n := 0) (o := 4) (off := 0) (p := []) (c := .st [.d (eA46 y11.1), .slc 1097 0 ((y11.2).length) 99]) (old := .st [.d (eA46 y11.1), .slc 1097 0 ((y11.2).length) 99]) (z := .st [.d (eA46 (List.replicate 32 (0 : Int))), .N]) (c' := .st [.d (eA46 (List.replicate 32 (0 : Int))), .N]) rfl rfl (by rfl) ty69 (by rfl)) rfl (.c rfl (.c rfl .nil)) (.cons rfl .nil) ?_
   refine .a rfl ?_
   refine .a rfl ?_
   refine .nil (aq_then ?_)
   refine aw_ret ?_
   refine aq_then_ret ?_
   refine aq_then_ret ?_
   obtain rfl := Option.some.inj h
   refine aq_freezeH [] [(4, .ptr 4 0 []), (5, .d (eL28 ([]))), (6, .I (190 : Int))] [(4, .av (.d (eGLine (⟨(List.replicate 32 (0 : Int)), []⟩ : GLine))))] .nil (.keep rfl (.cons rfl .nil (.keep rfl .nil))) (.cons rfl (by rfl) (.st (.cons (.same _) (.cons .nil .nil))) .nil) ?_
   exact aq_finp hb0 rfl (.cell rfl rfl ty69 (by rfl) (.tmp rfl (by rfl) (.tmp rfl (by rfl) .nil))) (by rfl) rfl ⟨rfl, rfl⟩
  replace h := ite_f hc22 h
  refine aw_skip ?_
  refine aq_then ?_
  refine aw_rs ?_
  refine .v1 (f_fieldAddr (n := 32) (by rfl) fl69_1 (by decide)) rfl rfl ?_
  refine .l 4 (0 + 32) [1] (.st [.d (eA46 y11.1), .slc 1097 0 ((y11.2).length) 99]) (.slc 1097 0 ((y11.2).length) 99) ty28 ?_
  refine .m rfl ?_
  refine .l 3 0 [] (.d (eGTx a1)) (.d (eGTx a1)) ty50 ?_
  obtain ⟨x23, hx24, h⟩ := bind_some h
  obtain ⟨hx25, hx24⟩ := rd_some hx24
  refine .v (f_indexSW (by rfl) sl28 hx25 (rd_map _ hx24)) rfl (.c rfl (.c rfl .nil)) (.cons rfl .nil) ?_
  refine .s (f_store (n := 0) (o := 1097) (off := ((0 + (y9).toNat) * 99)) (p := [0 + (y9).toNat]) (c := .d (.arr 99 ((y11.2).length) ((y11.2).map eGTx))) (old := .d (eGTx x23)) (z := .d (eGTx a1)) (c' := .d (.arr 99 ((y11.2).length) (((y11.2.set (0 + (y9).toNat) a1)).map eGTx))) (at_map _ (by simpa using hx24) rfl) (put_map _ (by simpa using hx24)) (by rfl) ty50 (by rfl)) rfl (.c rfl (.c rfl .nil)) (.cons rfl .nil) ?_
  refine .nil (aq_then ?_)
  refine aw_rds ?_
  refine .v (f_load (n := 0) (o := 4) (off := 0) (p := []) (c := .st [.d (eA46 y11.1), .slc 1097 0 ((y11.2).length) 99]) (z := .st [.d (eA46 y11.1), .slc 1097 0 ((y11.2).length) 99]) (by rfl) rfl ty69 (by rfl)) rfl (.c rfl .nil) (.cons rfl .nil) ?_
  refine .v1 (f_fieldAddr (n := 32) (by rfl) fl69_1 (by decide)) rfl rfl ?_
  refine .v (f_load (n := 0) (o := 2) (off := (0 + 32)) (p := [1]) (c := .d (eGLine a0)) (z := .d (eL28 a0.Txs)) (by rfl) rfl ty28 (by rfl)) rfl (.c rfl .nil) (.cons rfl .nil) ?_
  refine .v1 (f_move (by rfl)) rfl rfl ?_
  obtain ⟨x26, hx27, h⟩ := bind_some h
  obtain ⟨hx28, hx27⟩ := rd_some hx27
  refine .v2 (f_indexS (by rfl) sl28 hx28 (rd_map _ hx27)) rfl rfl rfl ?_
  refine .v1 (f_loadR (z := (eGTx x26)) (by rfl) ty50) rfl rfl ?_
  refine .n (f_buildS (xs := [(0, .d (eGTx x26))]) (z := (.st [(eA46 (List.replicate 32 (0 : Int))), (eA46 (List.replicate 32 (0 : Int))), (.val (.int .u64 (0 : Int))), (.val (.int .u64 (0 : Int))), (.val (.int .u64 (0 : Int))), (eA46 (List.replicate 32 (0 : Int)))])) (zs := (([x26] : List GTx)).map eGTx) 1098 (by rfl) el28 zel28 (by rfl) (by decide) (by decide) rfl (by rfl) ⟨_, _, _, rfl, pl28_0, rfl, rfl, trivial⟩ (by rfl)) rfl (.c rfl .nil) rfl ?_
  refine .s (f_store (n := 0) (o := 4) (off := 0) (p := []) (c := .st [.d (eA46 y11.1), .slc 1097 0 ((y11.2).length) 99]) (old := .st [.d (eA46 y11.1), .slc 1097 0 ((y11.2).length) 99]) (z := .st [.d (eA46 y11.1), .slc 1097 0 ((y11.2).length) 99]) (c' := .st [.d (eA46 y11.1), .slc 1097 0 ((y11.2).length) 99]) rfl rfl (by rfl) ty69 (by rfl)) rfl (.c rfl (.c rfl .nil)) (.cons rfl .nil) ?_
  refine .v1 (f_assign (by rfl)) rfl rfl ?_
  refine .v1 (f_assign (by rfl)) rfl rfl ?_
  refine .nil (by kernel_rfl) ?_
  refine aw_ret ?_
  refine aq_then_ret ?_
  obtain rfl := Option.some.inj h
  refine aq_freezeH [(1098, (.arr 99 ((([x26] : List GTx)).length) ((([x26] : List GTx)).map eGTx))), (1097, (.arr 99 ((y11.2).length) (((y11.2.set (0 + (y9).toNat) a1)).map eGTx)))] [(4, .ptr 4 0 []), (5, .d (eL28 ([x26] : List GTx))), (6, .I (0 : Int))] [(4, .av (.d (eGLine (⟨y11.1, (y11.2.set (0 + (y9).toNat) a1)⟩ : GLine))))] (.cons rfl (.cons rfl .nil)) (.keep rfl (.cons rfl (.whole (.head _)) (.keep rfl .nil))) (.cons rfl (by rfl) (.st (.cons (.same _) (.cons (.whole (.tail _ (.head _))) .nil))) .nil) ?_
  exact aq_finp hb0 rfl (.cell rfl rfl ty69 (by rfl) (.tmp rfl (by rfl) (.tmp rfl (by rfl) .nil))) (by rfl) rfl ⟨rfl, rfl⟩
 replace h := ite_f hc18 h
 refine aw_skip ?_
 refine aq_then ?_
 refine aw_seq ?_
 refine aw_rs ?_
 refine .v1 (f_fieldAddr (n := 32) (by rfl) fl69_1 (by decide)) rfl rfl ?_
 refine .l 2 (0 + 32) [1] (.d (eGLine a0)) (.d (eL28 a0.Txs)) ty28 ?_
 refine .v1 (f_lenD (n := (a0.Txs).length) (by rfl) sl28 rfl (by simp)) rfl rfl ?_
 refine .b rfl rfl rfl ?_
 refine .nil (aq_then ?_)
 refine aw_cond rfl (fun hc29 => ?_) (fun hc29 => ?_)
 ·replace h := ite_t hc29 h
  refine aw_rs ?_
  refine .v (f_build (xs := []) (z' := .st [.d (eA46 (List.replicate 32 (0 : Int))), .N]) (by rfl) zrv69 ag69 rfl (by rfl) trivial (by rfl) (by rfl)) rfl .nil .nil ?_
  refine .s (f_store (n := 0) (o := 4) (off := 0) (p := []) (c := .st [.d (eA46 y11.1), .slc 1097 0 ((y11.2).length) 99]) (old := .st [.d (eA46 y11.1), .slc 1097 0 ((y11.2).length) 99]) (z := .st [.d (eA46 (List.replicate 32 (0 : Int))), .N]) (c' := .st [.d (eA46 (List.replicate 32 (0 : Int))), .N]) rfl rfl (by rfl) ty69 (by rfl)) rfl (.c rfl (.c rfl .nil)) (.cons rfl .nil) ?_
  refine .a rfl ?_
  refine .a rfl ?_
  refine .nil (aq_then ?_)
  refine aw_ret ?_
  refine aq_then_ret ?_
  obtain rfl := Option.some.inj h
  refine aq_freezeH [] [(4, .ptr 4 0 []), (5, .d (eL28 ([]))), (6, .I (9 : Int))] [(4, .av (.d (eGLine (⟨(List.replicate 32 (0 : Int)), []⟩ : GLine))))] .nil (.keep rfl (.cons rfl .nil (.keep rfl .nil))) (.cons rfl (by rfl) (.st (.cons (.same _) (.cons .nil .nil))) .nil) ?_
  exact aq_finp hb0 rfl (.cell rfl rfl ty69 (by rfl) (.tmp rfl (by rfl) (.tmp rfl (by rfl) .nil))) (by rfl) rfl ⟨rfl, rfl⟩
 replace h := ite_f hc29 h
 refine aw_skip ?_
 refine aq_then ?_
 refine aw_rs ?_
 refine .v1 (f_fieldAddr (n := 32) (by rfl) fl69_1 (by decide)) rfl rfl ?_
 refine .l 4 (0 + 32) [1] (.st [.d (eA46 y11.1), .slc 1097 0 ((y11.2).length) 99]) (.slc 1097 0 ((y11.2).length) 99) ty28 ?_
 refine .m rfl ?_
 refine .l 3 0 [] (.d (eGTx a1)) (.d (eGTx a1)) ty50 ?_
 refine .n (f_buildS (xs := [(0, .d (eGTx a1))]) (z := (.st [(eA46 (List.replicate 32 (0 : Int))), (eA46 (List.replicate 32 (0 : Int))), (.val (.int .u64 (0 : Int))), (.val (.int .u64 (0 : Int))), (.val (.int .u64 (0 : Int))), (eA46 (List.replicate 32 (0 : Int)))])) (zs := (([a1] : List GTx)).map eGTx) 1099 (by rfl) el28 zel28 (by rfl) (by decide) (by decide) rfl (by rfl) ⟨_, _, _, rfl, pl28_0, rfl, rfl, trivial⟩ (by rfl)) rfl (.c rfl .nil) rfl ?_
 obtain ⟨y30, hy31, h⟩ := bind_some h
 refine .w (f_callG (xs := [.slc 1097 0 ((y11.2).length) 99, .I y9, .slc 1099 0 ((([a1] : List GTx)).length) 99]) (r := .slc 1100 0 ((y30).length) 99) (hw := [(1100, .av (.d (.arr 99 ((y30).length) ((y30).map eGTx)))), (1097, .dead), (1099, .av (.d (.arr 99 ((([a1] : List GTx)).length) ((([a1] : List GTx)).map eGTx))))]) (fun i => bif Nat.beq i 2 then 1100 else (bif Nat.beq i 1 then 1099 else (bif Nat.beq i 0 then 1097 else i))) [] hgl (by rfl) (cal_f en91) rfl (by rfl) (by rfl) (by rfl) (by rfl) (.cons (.same _) (.cons (.same _) (.cons (.same _) .nil))) rfl rfl rfl rfl (F91_Insert_ok hy31)) rfl (.c rfl (.c rfl (.c rfl .nil))) (.cons rfl (.cons rfl .nil)) (.cons rfl .nil) ?_
 refine .v1 (f_fieldAddr (n := 32) (by rfl) fl69_1 (by decide)) rfl rfl ?_
 refine .s (f_store (n := 0) (o := 4) (off := (0 + 32)) (p := [1]) (c := .st [.d (eA46 y11.1), .slc 1097 0 ((y11.2).length) 99]) (old := .slc 1097 0 ((y11.2).length) 99) (z := .slc 1100 0 ((y30).length) 99) (c' := .st [.d (eA46 y11.1), .slc 1100 0 ((y30).length) 99]) rfl rfl (by rfl) ty28 (by rfl)) rfl (.c rfl (.c rfl .nil)) (.cons rfl .nil) ?_
 refine .z ?_
 refine .l 4 0 [] (.st [.d (eA46 y11.1), .slc 1100 0 ((y30).length) 99]) (.st [.d (eA46 y11.1), .slc 1100 0 ((y30).length) 99]) ty69 ?_
 refine .s (f_store (n := 0) (o := 4) (off := 0) (p := []) (c := .st [.d (eA46 y11.1), .slc 1100 0 ((y30).length) 99]) (old := .st [.d (eA46 y11.1), .slc 1100 0 ((y30).length) 99]) (z := .st [.d (eA46 y11.1), .slc 1100 0 ((y30).length) 99]) (c' := .st [.d (eA46 y11.1), .slc 1100 0 ((y30).length) 99]) rfl rfl (by rfl) ty69 (by rfl)) rfl (.c rfl (.c rfl .nil)) (.cons rfl .nil) ?_
 refine .a rfl ?_
 refine .a rfl ?_
 refine .nil (aq_then ?_)
 refine aw_ret ?_
 obtain rfl := Option.some.inj h
 refine aq_freezeH [(1100, (.arr 99 ((y30).length) ((y30).map eGTx)))] [(4, .ptr 4 0 []), (5, .d (eL28 ([]))), (6, .I (0 : Int))] [(4, .av (.d (eGLine (⟨y11.1, y30⟩ : GLine))))] (.cons rfl .nil) (.keep rfl (.cons rfl .nil (.keep rfl .nil))) (.cons rfl (by rfl) (.st (.cons (.same _) (.cons (.whole (.head _)) .nil))) .nil) ?_
 exact aq_finp hb0 rfl (.cell rfl rfl ty69 (by rfl) (.tmp rfl (by rfl) (.tmp rfl (by rfl) .nil))) (by rfl) rfl ⟨rfl, rfl⟩
def F135_shard_part_worst_1_abe (n : Nat) (a0 : Int) (a1 : (List GLine)) : Option (Int) :=
  ((rd a1 a0).bind fun (x1 : GLine) => ((rd a1 a0).bind fun (x4 : GLine) => ((rd x1.Txs (IntKind.i64.wrap (((x4.Txs).length : Int) - (1 : Int)))).bind fun (x7 : GTx) => some x7.Fee)))
theorem F135_shard_part_worst_1_abe_ok {n : Nat} {a0 : Int} {a1 : (List GLine)} {r : Int} (h : F135_shard_part_worst_1_abe n a0 a1 = some r) :
    ACall Tryz.prog GS 135 [.I a0, .ptr 0 0 []] [(0, .av (.ptr 1 0 [])), (1, .av (.st [.st [.slc 2 0 ((a1).length) 33]])), (2, .av (.d (.arr 33 ((a1).length) ((a1).map eGLine))))] (fun r' hp' => r' = .U r ∧ hp' = [(0, .av (.ptr 1 0 [])), (1, .av (.st [.st [.slc 2 0 ((a1).length) 33]])), (2, .av (.d (.arr 33 ((a1).length) ((a1).map eGLine))))]) := by
 refine acall_of_body mixed Tryz.func135 rfl (by rfl) ?_
 intro C hro hgl hb0
 unfold F135_shard_part_worst_1_abe at h
 refine aw_rs ?_
 refine .a rfl ?_
 refine .nil (aq_then ?_)
 refine aw_rds ?_
 refine .v (f_load (n := 0) (o := 0) (off := 0) (p := []) (c := .ptr 1 0 []) (z := .ptr 1 0 []) (by rfl) rfl ty76 (by rfl)) rfl (.c rfl .nil) (.cons rfl .nil) ?_
 refine .v1 (f_nilCheck (by rfl)) rfl rfl ?_
 refine .v1 (f_fieldAddr (n := 0) (by rfl) fl78_0 (by decide)) rfl rfl ?_
 refine .v1 (f_fieldAddr (n := 0) (by rfl) fl24_0 (by decide)) rfl rfl ?_
 refine .v (f_load (n := 0) (o := 1) (off := ((0 + 0) + 0)) (p := [0, 0]) (c := .st [.st [.slc 2 0 ((a1).length) 33]]) (z := .slc 2 0 ((a1).length) 33) (by rfl) rfl ty22 (by rfl)) rfl (.c rfl .nil) (.cons rfl .nil) ?_
 refine .v1 (f_move (by rfl)) rfl rfl ?_
 obtain ⟨x1, hx2, h⟩ := bind_some h
 obtain ⟨hx3, hx2⟩ := rd_some hx2
 refine .v (f_indexSW (by rfl) sl22 hx3 (rd_map _ hx2)) rfl (.c rfl (.c rfl .nil)) (.cons rfl .nil) ?_
 refine .v1 (f_fieldAddr (n := 32) (by rfl) fl69_1 (by decide)) rfl rfl ?_
 refine .v (f_load (n := 0) (o := 2) (off := (((0 + (a0).toNat) * 33) + 32)) (p := [0 + (a0).toNat, 1]) (c := .d (.arr 33 ((a1).length) ((a1).map eGLine))) (z := .d (eL28 x1.Txs)) (by rfl) (at_map2 eGLine (by simpa using hx2) rfl rfl) ty28 (by rfl)) rfl (.c rfl .nil) (.cons rfl .nil) ?_
 refine .v (f_load (n := 0) (o := 0) (off := 0) (p := []) (c := .ptr 1 0 []) (z := .ptr 1 0 []) (by rfl) rfl ty76 (by rfl)) rfl (.c rfl .nil) (.cons rfl .nil) ?_
 refine .v1 (f_nilCheck (by rfl)) rfl rfl ?_
 refine .v1 (f_fieldAddr (n := 0) (by rfl) fl78_0 (by decide)) rfl rfl ?_
 refine .v1 (f_fieldAddr (n := 0) (by rfl) fl24_0 (by decide)) rfl rfl ?_
 refine .v (f_load (n := 0) (o := 1) (off := ((0 + 0) + 0)) (p := [0, 0]) (c := .st [.st [.slc 2 0 ((a1).length) 33]]) (z := .slc 2 0 ((a1).length) 33) (by rfl) rfl ty22 (by rfl)) rfl (.c rfl .nil) (.cons rfl .nil) ?_
 refine .v1 (f_move (by rfl)) rfl rfl ?_
 obtain ⟨x4, hx5, h⟩ := bind_some h
 obtain ⟨hx6, hx5⟩ := rd_some hx5
 refine .v (f_indexSW (by rfl) sl22 hx6 (rd_map _ hx5)) rfl (.c rfl (.c rfl .nil)) (.cons rfl .nil) ?_
 refine .v1 (f_fieldAddr (n := 32) (by rfl) fl69_1 (by decide)) rfl rfl ?_
 refine .v (f_load (n := 0) (o := 2) (off := (((0 + (a0).toNat) * 33) + 32)) (p := [0 + (a0).toNat, 1]) (c := .d (.arr 33 ((a1).length) ((a1).map eGLine))) (z := .d (eL28 x4.Txs)) (by rfl) (at_map2 eGLine (by simpa using hx5) rfl rfl) ty28 (by rfl)) rfl (.c rfl .nil) (.cons rfl .nil) ?_
 refine .v1 (f_lenD (n := (x4.Txs).length) (by rfl) sl28 rfl (by simp)) rfl rfl ?_
 refine .v2 (f_binI (by rfl) rfl (by rfl)) rfl rfl rfl ?_
 obtain ⟨x7, hx8, h⟩ := bind_some h
 obtain ⟨hx9, hx8⟩ := rd_some hx8
 refine .v2 (f_indexS (by rfl) sl28 hx9 (rd_map _ hx8)) rfl rfl rfl ?_
 refine .v1 (f_fieldAddrR (by rfl) fl50_4 (by decide) rfl) rfl rfl ?_
 refine .v1 (f_loadR (z := (.val (.int .u64 x7.Fee))) (by rfl) ty48) rfl rfl ?_
 refine .v1 (f_assign (by rfl)) rfl rfl ?_
 refine .nil (by kernel_rfl) ?_
 refine aw_ret ?_
 obtain rfl := Option.some.inj h
 refine aq_k hb0 (.k 3 rfl .nil) (.k 0 rfl (.k 1 rfl (.k 2 rfl .nil))) ?_
 exact aq_fin1 (.tmp rfl (by rfl) .nil) rfl ⟨rfl, rfl⟩
def F99_shard_part_worst_91b_s0 (n : Nat) (a0 : GTx) (a1 : (List GLine)) (y1 : (List Int)) (z0_0 : Int) (z0_1 : Int) : Option ((Int × Int) ⊕ (Int)) :=
  (if (decide (z0_1 < ((a1).length : Int))) = true then ((((((rd a1 z0_1).bind fun (x4 : GLine) => (if (!(decide (x4.From = y1))) = true then ((F135_shard_part_worst_1_abe n z0_1 a1).bind fun (y8 : Int) => (if (decide (y8 < a0.Fee)) = true then (if (decide (z0_0 < (0 : Int))) = true then some true else ((F135_shard_part_worst_1_abe n z0_1 a1).bind fun (y12 : Int) => ((F135_shard_part_worst_1_abe n z0_0 a1).bind fun (y14 : Int) => some (decide (y12 < y14))))) else some false)) else some false))).bind fun (o16 : Bool) => (if o16 = true then some z0_1 else some z0_0))).bind fun (o19 : Int) => some (.inl (o19, (IntKind.i64.wrap (z0_1 + (1 : Int)))))) else some (.inr z0_0))
def F99_shard_part_worst_91b (n : Nat) (a0 : GTx) (a1 : (List GLine)) : Option (Int) :=
  ((F27_tx_From n a0).bind fun (y1 : (List Int)) => ((loopF (fun (z : Int × Int) => F99_shard_part_worst_91b_s0 n a0 a1 y1 z.1 z.2) n ((-1 : Int), (0 : Int))).bind fun (o21 : Int) => some o21))
theorem F99_shard_part_worst_91b_ok {n : Nat} {a0 : GTx} {a1 : (List GLine)} {r : Int} (h : F99_shard_part_worst_91b n a0 a1 = some r) :
    ACall Tryz.prog GS 99 [.ptr 0 0 [], .d (eGTx a0)] [(0, .av (.st [.st [.slc 1 0 ((a1).length) 33]])), (1, .av (.d (.arr 33 ((a1).length) ((a1).map eGLine))))] (fun r' hp' => r' = .I r ∧ hp' = [(0, .av (.st [.st [.slc 1 0 ((a1).length) 33]])), (1, .av (.d (.arr 33 ((a1).length) ((a1).map eGLine))))]) := by
 refine acall_of_body mixed Tryz.func99 rfl (by rfl) ?_
 intro C hro hgl hb0
 unfold F99_shard_part_worst_91b at h
 refine aw_rs ?_
 refine .n (f_box 2 (by rfl) (by rfl)) rfl (.c rfl .nil) rfl ?_
 refine .n (f_box 3 (by rfl) (by rfl)) rfl (.c rfl .nil) rfl ?_
 refine .a rfl ?_
 refine .z ?_
 refine .l 3 0 [] (.d (eGTx a0)) (.d (eGTx a0)) ty50 ?_
 obtain ⟨y1, hy2, h⟩ := bind_some h
 refine .v1 (f_callP hgl (by rfl) en27 rfl (by rfl) (by rfl) (by rfl) (F27_tx_From_ok hy2)) rfl rfl ?_
 refine .n (f_alloc 6 (by rfl) zr47) rfl .nil rfl ?_
 refine .a rfl ?_
 refine .s (f_store (n := 0) (o := 6) (off := 0) (p := []) (c := .d (eA46 (List.replicate 32 (0 : Int)))) (old := .d (eA46 (List.replicate 32 (0 : Int)))) (z := .d (eA46 y1)) (c' := .d (eA46 y1)) rfl rfl (by rfl) ty47 (by rfl)) rfl (.c rfl (.c rfl .nil)) (.cons rfl .nil) ?_
 refine .z ?_
 refine .v1 (f_makeFunc (xs := []) (ys := [.ptr 2 0 []]) (by rfl) rfl rfl (by rfl) (by rfl)) rfl rfl ?_
 refine .a rfl ?_
 refine .nil (aq_then ?_)
 refine aw_seq ?_
 refine aw_rs ?_
 refine .l 2 0 [] (.ptr 0 0 []) (.ptr 0 0 []) ty76 ?_
 refine .v1 (f_nilCheck (by rfl)) rfl rfl ?_
 refine .v1 (f_fieldAddr (n := 0) (by rfl) fl78_0 (by decide)) rfl rfl ?_
 refine .v1 (f_fieldAddr (n := 0) (by rfl) fl24_0 (by decide)) rfl rfl ?_
 refine .l 0 ((0 + 0) + 0) [0, 0] (.st [.st [.slc 1 0 ((a1).length) 33]]) (.slc 1 0 ((a1).length) 33) ty22 ?_
 refine .v1 (f_lenO (by rfl) sl22 rfl) rfl rfl ?_
 refine .m rfl ?_
 refine .nil (aq_then ?_)
 refine aw_block ?_
 refine aw_k hb0 (.k 2 rfl (.k 3 rfl (.k 5 rfl (.k 6 rfl (.k 7 rfl (.k 17 rfl (.k 18 rfl .nil))))))) (.k 2 rfl (.k 3 rfl (.k 6 rfl (.k 0 rfl (.k 1 rfl .nil))))) ?_
 obtain ⟨o21, ho22, h⟩ := bind_some h
 refine aw_loopX (σ := Int × Int) (fun z => ⟨[(2, .ptr 2 0 []), (3, .ptr 3 0 []), (5, .I z.1), (6, .ptr 6 0 []), (7, .fn (.func 135) [] [.ptr 2 0 []]), (17, .I ((a1).length : Int)), (18, .I z.2)], [(2, .av (.ptr 0 0 [])), (3, .av (.d (eGTx a0))), (6, .av (.d (eA46 y1))), (0, .av (.st [.st [.slc 1 0 ((a1).length) 33]])), (1, .av (.d (.arr 33 ((a1).length) ((a1).map eGLine))))], []⟩) (fun _ => (.exit 0)) (fun (o21 : Int) => ⟨[(5, .I o21)], [(0, .av (.st [.st [.slc 1 0 ((a1).length) 33]])), (1, .av (.d (.arr 33 ((a1).length) ((a1).map eGLine))))], []⟩) ho22 (fun _ => rfl) ?_ ?_
 ·clear h ho22
  rintro ⟨z0_0, z0_1⟩ o h
  change F99_shard_part_worst_91b_s0 n a0 a1 y1 z0_0 z0_1 = some o at h
  unfold F99_shard_part_worst_91b_s0 at h
  show AW _ _ _ ⟨[(2, .ptr 2 0 []), (3, .ptr 3 0 []), (5, .I z0_0), (6, .ptr 6 0 []), (7, .fn (.func 135) [] [.ptr 2 0 []]), (17, .I ((a1).length : Int)), (18, .I z0_1)], [(2, .av (.ptr 0 0 [])), (3, .av (.d (eGTx a0))), (6, .av (.d (eA46 y1))), (0, .av (.st [.st [.slc 1 0 ((a1).length) 33]])), (1, .av (.d (.arr 33 ((a1).length) ((a1).map eGLine))))], []⟩
  refine aw_rs ?_
  refine .b rfl rfl rfl ?_
  refine .nil (aq_then ?_)
  refine aw_seq ?_
  refine aw_cond rfl (fun hc3 => ?_) (fun hc3 => ?_)
  ·replace h := ite_t hc3 h
   refine aw_skip ?_
   refine aq_then ?_
   refine aw_seq ?_
   obtain ⟨o19, ho20, h⟩ := bind_some h
   refine aw_join (.normal) ⟨[(2, .ptr 2 0 []), (3, .ptr 3 0 []), (5, .I o19), (6, .ptr 6 0 []), (7, .fn (.func 135) [] [.ptr 2 0 []]), (17, .I ((a1).length : Int)), (18, .I z0_1)], [(2, .av (.ptr 0 0 [])), (3, .av (.d (eGTx a0))), (6, .av (.d (eA46 y1))), (0, .av (.st [.st [.slc 1 0 ((a1).length) 33]])), (1, .av (.d (.arr 33 ((a1).length) ((a1).map eGLine))))], []⟩ ?_ ?_
   ·replace h := ho20
    refine aw_block ?_
    refine aw_rs ?_
    refine .m rfl ?_
    refine .a rfl ?_
    refine .nil (aq_then ?_)
    refine aw_seq ?_
    obtain ⟨o16, ho18, h⟩ := bind_some h
    refine aw_join (.normal) ⟨[(2, .ptr 2 0 []), (3, .ptr 3 0 []), (5, .I z0_0), (6, .ptr 6 0 []), (7, .fn (.func 135) [] [.ptr 2 0 []]), (8, .I z0_1), (17, .I ((a1).length : Int)), (18, .I z0_1), (52, .B o16)], [(2, .av (.ptr 0 0 [])), (3, .av (.d (eGTx a0))), (6, .av (.d (eA46 y1))), (0, .av (.st [.st [.slc 1 0 ((a1).length) 33]])), (1, .av (.d (.arr 33 ((a1).length) ((a1).map eGLine))))], []⟩ ?_ ?_
    ·replace h := ho18
     refine aw_rd ?_
     refine .v (f_load (n := 0) (o := 2) (off := 0) (p := []) (c := .ptr 0 0 []) (z := .ptr 0 0 []) (by rfl) rfl ty76 (by rfl)) rfl (.c rfl .nil) (.cons rfl .nil) ?_
     refine .v1 (f_nilCheck (by rfl)) rfl rfl ?_
     refine .v1 (f_fieldAddr (n := 0) (by rfl) fl78_0 (by decide)) rfl rfl ?_
     refine .v1 (f_fieldAddr (n := 0) (by rfl) fl24_0 (by decide)) rfl rfl ?_
     refine .v (f_load (n := 0) (o := 0) (off := ((0 + 0) + 0)) (p := [0, 0]) (c := .st [.st [.slc 1 0 ((a1).length) 33]]) (z := .slc 1 0 ((a1).length) 33) (by rfl) rfl ty22 (by rfl)) rfl (.c rfl .nil) (.cons rfl .nil) ?_
     refine .v1 (f_move (by rfl)) rfl rfl ?_
     obtain ⟨x4, hx5, h⟩ := bind_some h
     obtain ⟨hx6, hx5⟩ := rd_some hx5
     refine .v (f_indexSW (by rfl) sl22 hx6 (rd_map _ hx5)) rfl (.c rfl (.c rfl .nil)) (.cons rfl .nil) ?_
     refine .v1 (f_fieldAddr (n := 0) (by rfl) fl69_0 (by decide)) rfl rfl ?_
     refine .v (f_load (n := 0) (o := 1) (off := (((0 + (z0_1).toNat) * 33) + 0)) (p := [0 + (z0_1).toNat, 0]) (c := .d (.arr 33 ((a1).length) ((a1).map eGLine))) (z := .d (eA46 x4.From)) (by rfl) (at_map2 eGLine (by simpa using hx5) rfl rfl) ty47 (by rfl)) rfl (.c rfl .nil) (.cons rfl .nil) ?_
     refine .v (f_load (n := 0) (o := 6) (off := 0) (p := []) (c := .d (eA46 y1)) (z := .d (eA46 y1)) (by rfl) rfl ty47 (by rfl)) rfl (.c rfl .nil) (.cons rfl .nil) ?_
     refine .v2 (f_neqT (by rfl) (fit47 _) (fit47 _) (by rfl) (by rfl) gd47 (eq_eA46 _ _)) rfl rfl rfl ?_
     refine .v1 (f_move (by rfl)) rfl rfl ?_
     rcases Bool.eq_false_or_eq_true (!(decide (x4.From = y1))) with hc7 | hc7
     ·replace h := ite_t hc7 h
      refine .g1 (f_move (by rfl)) rfl rfl rfl hc7 rfl ?_
      refine .g1 (f_move (by rfl)) rfl rfl rfl hc7 rfl ?_
      obtain ⟨y8, hy9, h⟩ := bind_some h
      refine .gw (f_callG0 (xs := [.I z0_1]) (r := .U y8) (fun i => bif Nat.beq i 2 then 1 else (bif Nat.beq i 1 then 0 else (bif Nat.beq i 0 then 2 else i))) [] hgl (by rfl) (cal_v (first := []) (caps := [.ptr 2 0 []]) en135) rfl (by rfl) (by rfl) (by rfl) (by rfl) (.cons (.same _) (.cons (.same _) .nil)) rfl rfl (F135_shard_part_worst_1_abe_ok hy9)) rfl rfl rfl hc7 (.c rfl (.c rfl .nil)) (.cons rfl (.cons rfl (.cons rfl .nil))) .nil ?_
      refine .g1 (f_fieldAddr (n := 66) (by rfl) fl50_4 (by decide)) rfl rfl rfl hc7 rfl ?_
      refine .gv (f_load (n := 0) (o := 3) (off := (0 + 66)) (p := [4]) (c := .d (eGTx a0)) (z := .U a0.Fee) (by rfl) rfl ty48 (by rfl)) rfl rfl rfl hc7 (.c rfl .nil) (.cons rfl .nil) ?_
      refine .g2 (f_binI (by rfl) rfl (by rfl)) rfl rfl rfl hc7 rfl rfl ?_
      refine .v2 (f_pick_true (by rfl) hc7) rfl rfl rfl ?_
      refine .v1 (f_move (by rfl)) rfl rfl ?_
      rcases Bool.eq_false_or_eq_true (decide (y8 < a0.Fee)) with hc10 | hc10
      ·replace h := ite_t hc10 h
       refine .g1 (f_move (by rfl)) rfl rfl rfl hc10 rfl ?_
       refine .g2 (f_binI (by rfl) rfl (by rfl)) rfl rfl rfl hc10 rfl rfl ?_
       refine .g1 (f_move (by rfl)) rfl rfl rfl hc10 rfl ?_
       rcases Bool.eq_false_or_eq_true (decide (z0_0 < (0 : Int))) with hc11 | hc11
       ·replace h := ite_t hc11 h
        refine .q rfl rfl rfl hc11 rfl ?_
        refine .q rfl rfl rfl hc11 rfl ?_
        refine .q rfl rfl rfl hc11 rfl ?_
        refine .q rfl rfl rfl hc11 rfl ?_
        refine .q rfl rfl rfl hc11 rfl ?_
        refine .q rfl rfl rfl hc11 rfl ?_
        refine .q rfl rfl rfl hc11 rfl ?_
        refine .g2 (f_pick_true (by rfl) hc11) rfl rfl rfl hc10 rfl rfl ?_
        refine .v2 (f_pick_true (by rfl) hc10) rfl rfl rfl ?_
        refine .nil (by kernel_rfl) ?_
        obtain rfl := Option.some.inj h
        refine aq_k hb0 (.k 2 rfl (.k 3 rfl (.k 5 rfl (.k 6 rfl (.k 7 rfl (.k 8 rfl (.k 17 rfl (.k 18 rfl (.k 52 rfl .nil))))))))) (.k 2 rfl (.k 3 rfl (.k 6 rfl (.k 0 rfl (.k 1 rfl .nil))))) ?_
        exact jq
       replace h := ite_f hc11 h
       refine .g1 (f_move (by rfl)) rfl rfl rfl hc11 rfl ?_
       refine .g1 (f_move (by rfl)) rfl rfl rfl hc11 rfl ?_
       obtain ⟨y12, hy13, h⟩ := bind_some h
       refine .gw (f_callG0 (xs := [.I z0_1]) (r := .U y12) (fun i => bif Nat.beq i 2 then 1 else (bif Nat.beq i 1 then 0 else (bif Nat.beq i 0 then 2 else i))) [] hgl (by rfl) (cal_v (first := []) (caps := [.ptr 2 0 []]) en135) rfl (by rfl) (by rfl) (by rfl) (by rfl) (.cons (.same _) (.cons (.same _) .nil)) rfl rfl (F135_shard_part_worst_1_abe_ok hy13)) rfl rfl rfl hc11 (.c rfl (.c rfl .nil)) (.cons rfl (.cons rfl (.cons rfl .nil))) .nil ?_
       refine .g1 (f_move (by rfl)) rfl rfl rfl hc11 rfl ?_
       refine .g1 (f_move (by rfl)) rfl rfl rfl hc11 rfl ?_
       obtain ⟨y14, hy15, h⟩ := bind_some h
       refine .gw (f_callG0 (xs := [.I z0_0]) (r := .U y14) (fun i => bif Nat.beq i 2 then 1 else (bif Nat.beq i 1 then 0 else (bif Nat.beq i 0 then 2 else i))) [] hgl (by rfl) (cal_v (first := []) (caps := [.ptr 2 0 []]) en135) rfl (by rfl) (by rfl) (by rfl) (by rfl) (.cons (.same _) (.cons (.same _) .nil)) rfl rfl (F135_shard_part_worst_1_abe_ok hy15)) rfl rfl rfl hc11 (.c rfl (.c rfl .nil)) (.cons rfl (.cons rfl (.cons rfl .nil))) .nil ?_
       refine .g2 (f_binI (by rfl) rfl (by rfl)) rfl rfl rfl hc11 rfl rfl ?_
       refine .g2 (f_pick_false (by rfl) hc11) rfl rfl rfl hc10 rfl rfl ?_
       refine .v2 (f_pick_true (by rfl) hc10) rfl rfl rfl ?_
       refine .nil (by kernel_rfl) ?_
       obtain rfl := Option.some.inj h
       refine aq_k hb0 (.k 2 rfl (.k 3 rfl (.k 5 rfl (.k 6 rfl (.k 7 rfl (.k 8 rfl (.k 17 rfl (.k 18 rfl (.k 52 rfl .nil))))))))) (.k 2 rfl (.k 3 rfl (.k 6 rfl (.k 0 rfl (.k 1 rfl .nil))))) ?_
       exact jq
      replace h := ite_f hc10 h
      refine .q rfl rfl rfl hc10 rfl ?_
      refine .q rfl rfl rfl hc10 rfl ?_
      refine .q rfl rfl rfl hc10 rfl ?_
      refine .offu rfl rfl rfl rfl (by rfl) ?_
      refine .offu rfl rfl rfl rfl (by rfl) ?_
      refine .offu rfl rfl rfl rfl (by rfl) ?_
      refine .offu rfl rfl rfl rfl (by rfl) ?_
      refine .offu rfl rfl rfl rfl (by rfl) ?_
      refine .offu rfl rfl rfl rfl (by rfl) ?_
      refine .offu rfl rfl rfl rfl (by rfl) ?_
      refine .q rfl rfl rfl hc10 rfl ?_
      refine .v2 (f_pick_false (by rfl) hc10) rfl rfl rfl ?_
      refine .nil (by kernel_rfl) ?_
      obtain rfl := Option.some.inj h
      refine aq_k hb0 (.k 2 rfl (.k 3 rfl (.k 5 rfl (.k 6 rfl (.k 7 rfl (.k 8 rfl (.k 17 rfl (.k 18 rfl (.k 52 rfl .nil))))))))) (.k 2 rfl (.k 3 rfl (.k 6 rfl (.k 0 rfl (.k 1 rfl .nil))))) ?_
      exact jq
     replace h := ite_f hc7 h
     refine .q rfl rfl rfl hc7 rfl ?_
     refine .q rfl rfl rfl hc7 rfl ?_
     refine .q rfl rfl rfl hc7 rfl ?_
     refine .q rfl rfl rfl hc7 rfl ?_
     refine .q rfl rfl rfl hc7 rfl ?_
     refine .q rfl rfl rfl hc7 rfl ?_
     refine .v2 (f_pick_false (by rfl) hc7) rfl rfl rfl ?_
     refine .v1 (f_move (by rfl)) rfl rfl ?_
     refine .q rfl rfl rfl rfl rfl ?_
     refine .q rfl rfl rfl rfl rfl ?_
     refine .q rfl rfl rfl rfl rfl ?_
     refine .offu rfl rfl rfl rfl (by rfl) ?_
     refine .offu rfl rfl rfl rfl (by rfl) ?_
     refine .offu rfl rfl rfl rfl (by rfl) ?_
     refine .offu rfl rfl rfl rfl (by rfl) ?_
     refine .offu rfl rfl rfl rfl (by rfl) ?_
     refine .offu rfl rfl rfl rfl (by rfl) ?_
     refine .offu rfl rfl rfl rfl (by rfl) ?_
     refine .q rfl rfl rfl rfl rfl ?_
     refine .v2 (f_pick_false (by rfl) rfl) rfl rfl rfl ?_
     refine .nil (by kernel_rfl) ?_
     obtain rfl := Option.some.inj h
     refine aq_k hb0 (.k 2 rfl (.k 3 rfl (.k 5 rfl (.k 6 rfl (.k 7 rfl (.k 8 rfl (.k 17 rfl (.k 18 rfl (.k 52 rfl .nil))))))))) (.k 2 rfl (.k 3 rfl (.k 6 rfl (.k 0 rfl (.k 1 rfl .nil))))) ?_
     exact jq
    refine aq_then ?_
    refine aw_cond rfl (fun hc17 => ?_) (fun hc17 => ?_)
    ·replace h := ite_t hc17 h
     refine aw_r ?_
     refine .m rfl ?_
     refine .a rfl ?_
     refine .nil ?_
     refine aq_block ?_
     obtain rfl := Option.some.inj h
     refine aq_k hb0 (.k 2 rfl (.k 3 rfl (.k 5 rfl (.k 6 rfl (.k 7 rfl (.k 17 rfl (.k 18 rfl .nil))))))) (.k 2 rfl (.k 3 rfl (.k 6 rfl (.k 0 rfl (.k 1 rfl .nil))))) ?_
     exact jq
    replace h := ite_f hc17 h
    refine aw_skip ?_
    refine aq_block ?_
    obtain rfl := Option.some.inj h
    refine aq_k hb0 (.k 2 rfl (.k 3 rfl (.k 5 rfl (.k 6 rfl (.k 7 rfl (.k 17 rfl (.k 18 rfl .nil))))))) (.k 2 rfl (.k 3 rfl (.k 6 rfl (.k 0 rfl (.k 1 rfl .nil))))) ?_
    exact jq
   refine aq_then ?_
   refine aw_r ?_
   refine .b rfl rfl rfl ?_
   refine .m rfl ?_
   refine .nil ?_
   obtain rfl := Option.some.inj h
   refine aq_k hb0 (.k 2 rfl (.k 3 rfl (.k 5 rfl (.k 6 rfl (.k 7 rfl (.k 17 rfl (.k 18 rfl .nil))))))) (.k 2 rfl (.k 3 rfl (.k 6 rfl (.k 0 rfl (.k 1 rfl .nil))))) ?_
   exact jq
  replace h := ite_f hc3 h
  refine aw_exit ?_
  refine aq_then_exit ?_
  obtain rfl := Option.some.inj h
  refine aq_k hb0 (.k 5 rfl .nil) (.k 0 rfl (.k 1 rfl .nil)) ?_
  exact jq
 refine aq_block_exit ?_
 refine aq_then ?_
 refine aw_rs ?_
 refine .m rfl ?_
 refine .a rfl ?_
 refine .nil (aq_then ?_)
 refine aw_ret ?_
 obtain rfl := Option.some.inj h
 refine aq_k hb0 (.k 4 rfl .nil) (.k 0 rfl (.k 1 rfl .nil)) ?_
 exact aq_fin1 (.tmp rfl (by rfl) .nil) rfl ⟨rfl, rfl⟩
def F36_shard_part_set_08b (n : Nat) (a0 : GLine) (a1 : (List GLine)) : Option (List GLine) :=
  ((F76_shard_part_find_a8c n a0.From a1).bind fun (y1 : Int × Bool) => (((if y1.2 = true then some (((a0.Txs).length : Int) == (0 : Int)) else some false)).bind fun (o4 : Bool) => (if o4 = true then ((F77_Delete n y1.1 (IntKind.i64.wrap (y1.1 + (1 : Int))) a1).bind fun (y6 : List GLine) => some y6) else (if y1.2 = true then ((rd a1 y1.1).bind fun (x9 : GLine) => some (a1.set (0 + (y1.1).toNat) a0)) else (if (decide (((a0.Txs).length : Int) > (0 : Int))) = true then ((F78_Insert n y1.1 a1 ([a0] : List GLine)).bind fun (y13 : List GLine) => some y13) else some a1)))))
theorem F36_shard_part_set_08b_ok {n : Nat} {a0 : GLine} {a1 : (List GLine)} {r : List GLine} (h : F36_shard_part_set_08b n a0 a1 = some r) :
    ACall Tryz.prog GS 36 [.ptr 0 0 [], .d (eGLine a0)] [(0, .av (.st [.st [.slc 1 0 ((a1).length) 33]])), (1, .av (.d (.arr 33 ((a1).length) ((a1).map eGLine))))] (fun r' hp' => r' = .res [] ∧ hp' = [(0, .av (.st [.st [.slc 1102 0 ((r).length) 33]])), (1, .dead), (1102, .av (.d (.arr 33 ((r).length) ((r).map eGLine))))]) := by
 refine acall_of_body mixed Tryz.func36 rfl (by rfl) ?_
 intro C hro hgl hb0
 unfold F36_shard_part_set_08b at h
 refine aw_rs ?_
 refine .n (f_box 3 (by rfl) (by rfl)) rfl (.c rfl .nil) rfl ?_
 refine .z ?_
 refine .m rfl ?_
 refine .v1 (f_makeFunc (xs := [.ptr 0 0 []]) (ys := []) (by rfl) rfl rfl (by rfl) (by rfl)) rfl rfl ?_
 refine .a rfl ?_
 refine .z ?_
 refine .m rfl ?_
 refine .v1 (f_fieldAddr (n := 0) (by rfl) fl69_0 (by decide)) rfl rfl ?_
 refine .l 3 (0 + 0) [0] (.d (eGLine a0)) (.d (eA46 a0.From)) ty47 ?_
 obtain ⟨y1, hy2, h⟩ := bind_some h
 refine .w (f_callG0 (xs := [.d (eA46 a0.From)]) (r := .res [.I y1.1, .B y1.2]) (fun i => i) [] hgl (by rfl) (cal_v (first := [.ptr 0 0 []]) (caps := []) en76) rfl (by rfl) (by rfl) (by rfl) (by rfl) (.cons (.same _) (.cons (.same _) .nil)) rfl rfl (F76_shard_part_find_a8c_ok hy2)) rfl (.c rfl (.c rfl .nil)) (.cons rfl (.cons rfl .nil)) .nil ?_
 refine .m rfl ?_
 refine .v1 (f_extract (by rfl) rfl) rfl rfl ?_
 refine .v1 (f_extract (by rfl) rfl) rfl rfl ?_
 refine .a rfl ?_
 refine .a rfl ?_
 refine .nil (aq_then ?_)
 refine aw_block ?_
 refine aw_seq ?_
 obtain ⟨o4, ho15, h⟩ := bind_some h
 refine aw_join (.normal) ⟨[(0, .ptr 0 0 []), (3, .ptr 3 0 []), (5, .I y1.1), (6, .B y1.2), (16, .B o4)], [(0, .av (.st [.st [.slc 1 0 ((a1).length) 33]])), (3, .av (.d (eGLine a0))), (1, .av (.d (.arr 33 ((a1).length) ((a1).map eGLine))))], []⟩ ?_ ?_
 ·replace h := ho15
  refine aw_r ?_
  refine .m rfl ?_
  refine .m rfl ?_
  rcases Bool.eq_false_or_eq_true y1.2 with hc3 | hc3
  ·replace h := ite_t hc3 h
   refine .g1 (f_fieldAddr (n := 32) (by rfl) fl69_1 (by decide)) rfl rfl rfl hc3 rfl ?_
   refine .gv (f_load (n := 0) (o := 3) (off := (0 + 32)) (p := [1]) (c := .d (eGLine a0)) (z := .d (eL28 a0.Txs)) (by rfl) rfl ty28 (by rfl)) rfl rfl rfl hc3 (.c rfl .nil) (.cons rfl .nil) ?_
   refine .g1 (f_lenD (n := (a0.Txs).length) (by rfl) sl28 rfl (by simp)) rfl rfl rfl hc3 rfl ?_
   refine .g2 (f_binI (by rfl) rfl (by rfl)) rfl rfl rfl hc3 rfl rfl ?_
   refine .v2 (f_pick_true (by rfl) hc3) rfl rfl rfl ?_
   refine .a rfl ?_
   refine .nil ?_
   obtain rfl := Option.some.inj h
   refine aq_k hb0 (.k 0 rfl (.k 3 rfl (.k 5 rfl (.k 6 rfl (.k 16 rfl .nil))))) (.k 0 rfl (.k 3 rfl (.k 1 rfl .nil))) ?_
   exact jq
  replace h := ite_f hc3 h
  refine .q rfl rfl rfl hc3 rfl ?_
  refine .q rfl rfl rfl hc3 rfl ?_
  refine .q rfl rfl rfl hc3 rfl ?_
  refine .q rfl rfl rfl hc3 rfl ?_
  refine .v2 (f_pick_false (by rfl) hc3) rfl rfl rfl ?_
  refine .a rfl ?_
  refine .nil ?_
  obtain rfl := Option.some.inj h
  refine aq_k hb0 (.k 0 rfl (.k 3 rfl (.k 5 rfl (.k 6 rfl (.k 16 rfl .nil))))) (.k 0 rfl (.k 3 rfl (.k 1 rfl .nil))) ?_
  exact jq
 refine aq_then ?_
 refine aw_cond rfl (fun hc5 => ?_) (fun hc5 => ?_)
 ·replace h := ite_t hc5 h
  refine aw_r ?_
  refine .m rfl ?_
  refine .m rfl ?_
  refine .v1 (f_nilCheck (by rfl)) rfl rfl ?_
  refine .v1 (f_fieldAddr (n := 0) (by rfl) fl78_0 (by decide)) rfl rfl ?_
  refine .v1 (f_fieldAddr (n := 0) (by rfl) fl24_0 (by decide)) rfl rfl ?_
  refine .l 0 ((0 + 0) + 0) [0, 0] (.st [.st [.slc 1 0 ((a1).length) 33]]) (.slc 1 0 ((a1).length) 33) ty22 ?_
  refine .m rfl ?_
  refine .m rfl ?_
  refine .b rfl rfl rfl ?_
  obtain ⟨y6, hy7, h⟩ := bind_some h
  refine .w (f_callG (xs := [.slc 1 0 ((a1).length) 33, .I y1.1, .I (IntKind.i64.wrap (y1.1 + (1 : Int)))]) (r := .slc 1102 0 ((y6).length) 33) (hw := [(1102, .av (.d (.arr 33 ((y6).length) ((y6).map eGLine)))), (1, .dead)]) (fun i => bif Nat.beq i 1 then 1102 else (bif Nat.beq i 0 then 1 else i)) [] hgl (by rfl) (cal_f en77) rfl (by rfl) (by rfl) (by rfl) (by rfl) (.cons (.same _) (.cons (.same _) (.cons (.same _) .nil))) rfl rfl rfl rfl (F77_Delete_ok hy7)) rfl (.c rfl (.c rfl (.c rfl .nil))) (.cons rfl .nil) (.cons rfl .nil) ?_
  refine .v1 (f_nilCheck (by rfl)) rfl rfl ?_
  refine .v1 (f_fieldAddr (n := 0) (by rfl) fl78_0 (by decide)) rfl rfl ?_
  refine .v1 (f_fieldAddr (n := 0) (by rfl) fl24_0 (by decide)) rfl rfl ?_
  refine .s (f_store (n := 0) (o := 0) (off := ((0 + 0) + 0)) (p := [0, 0]) (c := .st [.st [.slc 1 0 ((a1).length) 33]]) (old := .slc 1 0 ((a1).length) 33) (z := .slc 1102 0 ((y6).length) 33) (c' := .st [.st [.slc 1102 0 ((y6).length) 33]]) rfl rfl (by rfl) ty22 (by rfl)) rfl (.c rfl (.c rfl .nil)) (.cons rfl .nil) ?_
  refine .nil ?_
  refine aq_block ?_
  obtain rfl := Option.some.inj h
  refine aq_k hb0 .nil (.k 0 rfl (.k 1 rfl (.k 1102 rfl .nil))) ?_
  exact aq_fin0 .nil rfl ⟨rfl, rfl⟩
 replace h := ite_f hc5 h
 refine aw_rs ?_
 refine .m rfl ?_
 refine .a rfl ?_
 refine .nil (aq_then ?_)
 refine aw_cond rfl (fun hc8 => ?_) (fun hc8 => ?_)
 ·replace h := ite_t hc8 h
  refine aw_rd ?_
  refine .v1 (f_move (by rfl)) rfl rfl ?_
  refine .v1 (f_nilCheck (by rfl)) rfl rfl ?_
  refine .v1 (f_fieldAddr (n := 0) (by rfl) fl78_0 (by decide)) rfl rfl ?_
  refine .v1 (f_fieldAddr (n := 0) (by rfl) fl24_0 (by decide)) rfl rfl ?_
  refine .v (f_load (n := 0) (o := 0) (off := ((0 + 0) + 0)) (p := [0, 0]) (c := .st [.st [.slc 1 0 ((a1).length) 33]]) (z := .slc 1 0 ((a1).length) 33) (by rfl) rfl ty22 (by rfl)) rfl (.c rfl .nil) (.cons rfl .nil) ?_
  refine .v1 (f_move (by rfl)) rfl rfl ?_
  refine .v (f_load (n := 0) (o := 3) (off := 0) (p := []) (c := .d (eGLine a0)) (z := .d (eGLine a0)) (by rfl) rfl ty69 (by rfl)) rfl (.c rfl .nil) (.cons rfl .nil) ?_
  obtain ⟨x9, hx10, h⟩ := bind_some h
  obtain ⟨hx11, hx10⟩ := rd_some hx10
  refine .v (f_indexSW (by rfl) sl22 hx11 (rd_map _ hx10)) rfl (.c rfl (.c rfl .nil)) (.cons rfl .nil) ?_
  refine .s (f_store (n := 0) (o := 1) (off := ((0 + (y1.1).toNat) * 33)) (p := [0 + (y1.1).toNat]) (c := .d (.arr 33 ((a1).length) ((a1).map eGLine))) (old := .d (eGLine x9)) (z := .d (eGLine a0)) (c' := .d (.arr 33 ((a1).length) (((a1.set (0 + (y1.1).toNat) a0)).map eGLine))) (at_map _ (by simpa using hx10) rfl) (put_map _ (by simpa using hx10)) (by rfl) ty69 (by rfl)) rfl (.c rfl (.c rfl .nil)) (.cons rfl .nil) ?_
  refine .nil (by kernel_rfl) ?_
  refine aq_block ?_
  obtain rfl := Option.some.inj h
  refine aq_moveH 0 1 1105 rfl rfl rfl rfl rfl ?_
  refine aq_weak (s' := ⟨[], [(0, .av (.st [.st [.slc 1102 0 (((a1.set (0 + (y1.1).toNat) a0)).length) 33]])), (1, .dead), (1102, .av (.d (.arr 33 (((a1.set (0 + (y1.1).toNat) a0)).length) (((a1.set (0 + (y1.1).toNat) a0)).map eGLine))))], []⟩) (fun i => (bif Nat.beq i 1102 then 1105 else i)) hb0 .nil (.cons (by simp only [List.length_set]; rfl) (.cons rfl (.cons (by simp only [List.length_set]; rfl) .nil))) rfl (by rfl) ?_
  exact aq_fin0 .nil rfl ⟨rfl, rfl⟩
 replace h := ite_f hc8 h
 refine aw_rs ?_
 refine .v1 (f_fieldAddr (n := 32) (by rfl) fl69_1 (by decide)) rfl rfl ?_
 refine .l 3 (0 + 32) [1] (.d (eGLine a0)) (.d (eL28 a0.Txs)) ty28 ?_
 refine .v1 (f_lenD (n := (a0.Txs).length) (by rfl) sl28 rfl (by simp)) rfl rfl ?_
 refine .b rfl rfl rfl ?_
 refine .a rfl ?_
 refine .nil (aq_then ?_)
 refine aw_cond rfl (fun hc12 => ?_) (fun hc12 => ?_)
 ·replace h := ite_t hc12 h
  refine aw_rd ?_
  refine .v1 (f_move (by rfl)) rfl rfl ?_
  refine .v1 (f_move (by rfl)) rfl rfl ?_
  refine .v1 (f_nilCheck (by rfl)) rfl rfl ?_
  refine .v1 (f_fieldAddr (n := 0) (by rfl) fl78_0 (by decide)) rfl rfl ?_
  refine .v1 (f_fieldAddr (n := 0) (by rfl) fl24_0 (by decide)) rfl rfl ?_
  refine .v (f_load (n := 0) (o := 0) (off := ((0 + 0) + 0)) (p := [0, 0]) (c := .st [.st [.slc 1 0 ((a1).length) 33]]) (z := .slc 1 0 ((a1).length) 33) (by rfl) rfl ty22 (by rfl)) rfl (.c rfl .nil) (.cons rfl .nil) ?_
  refine .v1 (f_move (by rfl)) rfl rfl ?_
  refine .v (f_load (n := 0) (o := 3) (off := 0) (p := []) (c := .d (eGLine a0)) (z := .d (eGLine a0)) (by rfl) rfl ty69 (by rfl)) rfl (.c rfl .nil) (.cons rfl .nil) ?_
  refine .n (f_buildS (xs := [(0, .d (eGLine a0))]) (z := (.st [(eA46 (List.replicate 32 (0 : Int))), (.val (.slice none 0 0))])) (zs := (([a0] : List GLine)).map eGLine) 1103 (by rfl) el22 zel22 (by rfl) (by decide) (by decide) rfl (by rfl) ⟨_, _, _, rfl, pl22_0, rfl, rfl, trivial⟩ (by rfl)) rfl (.c rfl .nil) rfl ?_
  obtain ⟨y13, hy14, h⟩ := bind_some h
  refine .w (f_callG (xs := [.slc 1 0 ((a1).length) 33, .I y1.1, .slc 1103 0 ((([a0] : List GLine)).length) 33]) (r := .slc 1104 0 ((y13).length) 33) (hw := [(1104, .av (.d (.arr 33 ((y13).length) ((y13).map eGLine)))), (1, .dead), (1103, .av (.d (.arr 33 ((([a0] : List GLine)).length) ((([a0] : List GLine)).map eGLine))))]) (fun i => bif Nat.beq i 2 then 1104 else (bif Nat.beq i 1 then 1103 else (bif Nat.beq i 0 then 1 else i))) [] hgl (by rfl) (cal_f en78) rfl (by rfl) (by rfl) (by rfl) (by rfl) (.cons (.same _) (.cons (.same _) (.cons (.same _) .nil))) rfl rfl rfl rfl (F78_Insert_ok hy14)) rfl (.c rfl (.c rfl (.c rfl .nil))) (.cons rfl (.cons rfl .nil)) (.cons rfl .nil) ?_
  refine .v1 (f_nilCheck (by rfl)) rfl rfl ?_
  refine .v1 (f_fieldAddr (n := 0) (by rfl) fl78_0 (by decide)) rfl rfl ?_
  refine .v1 (f_fieldAddr (n := 0) (by rfl) fl24_0 (by decide)) rfl rfl ?_
  refine .s (f_store (n := 0) (o := 0) (off := ((0 + 0) + 0)) (p := [0, 0]) (c := .st [.st [.slc 1 0 ((a1).length) 33]]) (old := .slc 1 0 ((a1).length) 33) (z := .slc 1104 0 ((y13).length) 33) (c' := .st [.st [.slc 1104 0 ((y13).length) 33]]) rfl rfl (by rfl) ty22 (by rfl)) rfl (.c rfl (.c rfl .nil)) (.cons rfl .nil) ?_
  refine .nil (by kernel_rfl) ?_
  refine aq_block ?_
  obtain rfl := Option.some.inj h
  refine aq_weak (s' := ⟨[], [(0, .av (.st [.st [.slc 1102 0 ((y13).length) 33]])), (1, .dead), (1102, .av (.d (.arr 33 ((y13).length) ((y13).map eGLine))))], []⟩) (fun i => (bif Nat.beq i 1102 then 1104 else i)) hb0 .nil (.cons rfl (.cons rfl (.cons rfl .nil))) rfl (by rfl) ?_
  exact aq_fin0 .nil rfl ⟨rfl, rfl⟩
 replace h := ite_f hc12 h
 refine aw_skip ?_
 refine aq_block ?_
 obtain rfl := Option.some.inj h
 refine aq_moveH 0 1 1106 rfl rfl rfl rfl rfl ?_
 refine aq_weak (s' := ⟨[], [(0, .av (.st [.st [.slc 1102 0 ((a1).length) 33]])), (1, .dead), (1102, .av (.d (.arr 33 ((a1).length) ((a1).map eGLine))))], []⟩) (fun i => (bif Nat.beq i 1102 then 1106 else i)) hb0 .nil (.cons rfl (.cons rfl (.cons rfl .nil))) rfl (by rfl) ?_
 exact aq_fin0 .nil rfl ⟨rfl, rfl⟩
end Go.Proofs.YtonfljoibcnlgaaGreatDoor
