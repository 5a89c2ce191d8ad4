import Derived.Test.YtonfljoibcnlgaaGreatDoorXb2
namespace Go.Proofs.YtonfljoibcnlgaaGreatDoor
open Bd
set_option maxRecDepth 10000
def F5_beadrolllaw21_PoolApart (n : Nat) (a0 : (List GShard)) (a1 : GTree) (a2 : Int) (a3 : Int) (a4 : GTx) (a5 : (List GTx)) : Option (Bool) :=
  ((F25_beadrolllaw21_alive n ).bind fun (y1 : Bool) => ((((F16_beadrollref21_Great n a0).bind fun (y3 : Bool) => (if y3 = true then some true else ((F7_beadrollref06_Great n a1 (600 : Int)).bind fun (y6 : Bool) => (if y6 = true then some true else (if (decide (((a5).length : Int) > (10 : Int))) = true then some true else some (!y1))))))).bind fun (o10 : Bool) => (if o10 = true then some y1 else ((F18_pool_Submit n a0 a3 a1 a4).bind fun (y12 : (List GShard) × (List GTx) × Int) => ((F20_pool_Draw n a0 a2 a1 a3).bind fun (y14 : (List GShard) × (List GTx) × Int) => ((F22_pool_Back n a0 a2 a1 a5).bind fun (y16 : (List GShard) × (List GTx) × Int) => ((F27_tx_From n a4).bind fun (y18 : (List Int)) => ((F26_pool_At n y18 ((a0).length : Int)).bind fun (y20 : Int × Int) => (((if (y12.2.2 == (0 : Int)) = true then ((F28_beadrolllaw21_apart n y12.1 a0 y20.1).bind fun (y23 : Bool) => (if (!y23) = true then some true else (if (y14.2.2 == (0 : Int)) = true then ((F28_beadrolllaw21_apart n y14.1 a0 a2).bind fun (y27 : Bool) => (if (!y27) = true then some true else (if (y16.2.2 == (0 : Int)) = true then ((F28_beadrolllaw21_apart n y16.1 a0 a2).bind fun (y31 : Bool) => some (!y31)) else some false))) else (if (y16.2.2 == (0 : Int)) = true then ((F28_beadrolllaw21_apart n y16.1 a0 a2).bind fun (y34 : Bool) => some (!y34)) else some false)))) else (if (y14.2.2 == (0 : Int)) = true then ((F28_beadrolllaw21_apart n y14.1 a0 a2).bind fun (y37 : Bool) => (if (!y37) = true then some true else (if (y16.2.2 == (0 : Int)) = true then ((F28_beadrolllaw21_apart n y16.1 a0 a2).bind fun (y41 : Bool) => some (!y41)) else some false))) else (if (y16.2.2 == (0 : Int)) = true then ((F28_beadrolllaw21_apart n y16.1 a0 a2).bind fun (y44 : Bool) => some (!y44)) else some false)))).bind fun (o46 : Bool) => (if o46 = true then some false else (((if y1 = true then (if (y12.2.2 == (0 : Int)) = true then (if (y14.2.2 == (0 : Int)) = true then (if (y16.2.2 == (0 : Int)) = true then some true else some (((y16.1).length : Int) == (0 : Int))) else (if (((y14.1).length : Int) == (0 : Int)) = true then (if (y16.2.2 == (0 : Int)) = true then some true else some (((y16.1).length : Int) == (0 : Int))) else some false)) else (if (((y12.1).length : Int) == (0 : Int)) = true then (if (y14.2.2 == (0 : Int)) = true then (if (y16.2.2 == (0 : Int)) = true then some true else some (((y16.1).length : Int) == (0 : Int))) else (if (((y14.1).length : Int) == (0 : Int)) = true then (if (y16.2.2 == (0 : Int)) = true then some true else some (((y16.1).length : Int) == (0 : Int))) else some false)) else some false)) else some false)).bind fun (o59 : Bool) => some o59)))))))))))
theorem F5_beadrolllaw21_PoolApart_ok {n : Nat} {a0 : (List GShard)} {a1 : GTree} {a2 : Int} {a3 : Int} {a4 : GTx} {a5 : (List GTx)} {r : Bool} (h : F5_beadrolllaw21_PoolApart n a0 a1 a2 a3 a4 a5 = some r) :
    ACall Tryz.prog GS 5 [.d (eL45 a0), .d (eGTree a1), .I a2, .I a3, .d (eGTx a4), .d (eL28 a5)] [] (fun r' hp' => r' = .B r ∧ hp' = []) := by
 refine acall_of_body mixed Tryz.func5 rfl (by rfl) ?_
 intro C hro hgl hb0
 unfold F5_beadrolllaw21_PoolApart at h
 refine aw_rs ?_
 refine .n (f_box 7 (by rfl) (by rfl)) rfl (.c rfl .nil) rfl ?_
 refine .n (f_box 10 (by rfl) (by rfl)) rfl (.c rfl .nil) rfl ?_
 refine .a rfl ?_
 refine .z ?_
 obtain ⟨y1, hy2, h⟩ := bind_some h
 refine .v (f_callP hgl (by rfl) en25 rfl (by rfl) (by rfl) (by rfl) (F25_beadrolllaw21_alive_ok hy2)) rfl .nil .nil ?_
 refine .a rfl ?_
 refine .nil (aq_then ?_)
 refine aw_seq ?_
 refine aw_seq ?_
 obtain ⟨o10, ho62, h⟩ := bind_some h
 refine aw_join (.normal) ⟨[(0, .d (eL45 a0)), (2, .I a2), (3, .I a3), (5, .d (eL28 a5)), (7, .ptr 7 0 []), (10, .ptr 10 0 []), (13, .B y1), (40, .B o10)], [(7, .av (.d (eGTree a1))), (10, .av (.d (eGTx a4)))], []⟩ ?_ ?_
 ·replace h := ho62
  refine aw_r ?_
  refine .m rfl ?_
  obtain ⟨y3, hy4, h⟩ := bind_some h
  refine .v1 (f_callP hgl (by rfl) en16 rfl (by rfl) (by rfl) (by rfl) (F16_beadrollref21_Great_ok hy4)) rfl rfl ?_
  refine .m rfl ?_
  rcases Bool.eq_false_or_eq_true y3 with hc5 | hc5
  ·replace h := ite_t hc5 h
   refine .q rfl rfl rfl hc5 rfl ?_
   refine .q rfl rfl rfl hc5 rfl ?_
   refine .v2 (f_pick_true (by rfl) hc5) rfl rfl rfl ?_
   refine .m rfl ?_
   refine .q rfl rfl rfl rfl rfl ?_
   refine .q rfl rfl rfl rfl rfl ?_
   refine .q rfl rfl rfl rfl rfl ?_
   refine .v2 (f_pick_true (by rfl) rfl) rfl rfl rfl ?_
   refine .m rfl ?_
   refine .q rfl rfl rfl rfl rfl ?_
   refine .q rfl rfl rfl rfl rfl ?_
   refine .v2 (f_pick_true (by rfl) rfl) rfl rfl rfl ?_
   refine .nil ?_
   obtain rfl := Option.some.inj h
   refine aq_k hb0 (.k 0 rfl (.k 2 rfl (.k 3 rfl (.k 5 rfl (.k 7 rfl (.k 10 rfl (.k 13 rfl (.k 40 rfl .nil)))))))) (.k 7 rfl (.k 10 rfl .nil)) ?_
   exact jq
  replace h := ite_f hc5 h
  refine .gv (f_load (n := 0) (o := 7) (off := 0) (p := []) (c := .d (eGTree a1)) (z := .d (eGTree a1)) (by rfl) rfl ty27 (by rfl)) rfl rfl rfl hc5 (.c rfl .nil) (.cons rfl .nil) ?_
  obtain ⟨y6, hy7, h⟩ := bind_some h
  refine .g2 (f_callP hgl (by rfl) en7 rfl (by rfl) (by rfl) (by rfl) (F7_beadrollref06_Great_ok hy7)) rfl rfl rfl hc5 rfl rfl ?_
  refine .v2 (f_pick_false (by rfl) hc5) rfl rfl rfl ?_
  refine .m rfl ?_
  rcases Bool.eq_false_or_eq_true y6 with hc8 | hc8
  ·replace h := ite_t hc8 h
   refine .q rfl rfl rfl hc8 rfl ?_
   refine .q rfl rfl rfl hc8 rfl ?_
   refine .q rfl rfl rfl hc8 rfl ?_
   refine .v2 (f_pick_true (by rfl) hc8) rfl rfl rfl ?_
   refine .m rfl ?_
   refine .q rfl rfl rfl rfl rfl ?_
   refine .q rfl rfl rfl rfl rfl ?_
   refine .v2 (f_pick_true (by rfl) rfl) rfl rfl rfl ?_
   refine .nil ?_
   obtain rfl := Option.some.inj h
   refine aq_k hb0 (.k 0 rfl (.k 2 rfl (.k 3 rfl (.k 5 rfl (.k 7 rfl (.k 10 rfl (.k 13 rfl (.k 40 rfl .nil)))))))) (.k 7 rfl (.k 10 rfl .nil)) ?_
   exact jq
  replace h := ite_f hc8 h
  refine .g1 (f_move (by rfl)) rfl rfl rfl hc8 rfl ?_
  refine .g1 (f_lenD (n := (a5).length) (by rfl) sl28 rfl (by simp)) rfl rfl rfl hc8 rfl ?_
  refine .g2 (f_binI (by rfl) rfl (by rfl)) rfl rfl rfl hc8 rfl rfl ?_
  refine .v2 (f_pick_false (by rfl) hc8) rfl rfl rfl ?_
  refine .m rfl ?_
  rcases Bool.eq_false_or_eq_true (decide (((a5).length : Int) > (10 : Int))) with hc9 | hc9
  ·replace h := ite_t hc9 h
   refine .q rfl rfl rfl hc9 rfl ?_
   refine .q rfl rfl rfl hc9 rfl ?_
   refine .v2 (f_pick_true (by rfl) hc9) rfl rfl rfl ?_
   refine .nil ?_
   obtain rfl := Option.some.inj h
   refine aq_k hb0 (.k 0 rfl (.k 2 rfl (.k 3 rfl (.k 5 rfl (.k 7 rfl (.k 10 rfl (.k 13 rfl (.k 40 rfl .nil)))))))) (.k 7 rfl (.k 10 rfl .nil)) ?_
   exact jq
  replace h := ite_f hc9 h
  refine .g1 (f_move (by rfl)) rfl rfl rfl hc9 rfl ?_
  refine .g1 (f_not (by rfl)) rfl rfl rfl hc9 rfl ?_
  refine .v2 (f_pick_false (by rfl) hc9) rfl rfl rfl ?_
  refine .nil ?_
  obtain rfl := Option.some.inj h
  refine aq_k hb0 (.k 0 rfl (.k 2 rfl (.k 3 rfl (.k 5 rfl (.k 7 rfl (.k 10 rfl (.k 13 rfl (.k 40 rfl .nil)))))))) (.k 7 rfl (.k 10 rfl .nil)) ?_
  exact jq
 refine aq_then ?_
 refine aw_cond rfl (fun hc11 => ?_) (fun hc11 => ?_)
 ·replace h := ite_t hc11 h
  refine aw_rs ?_
  refine .m rfl ?_
  refine .a rfl ?_
  refine .nil (aq_then ?_)
  refine aw_ret ?_
  refine aq_then_ret ?_
  obtain rfl := Option.some.inj h
  exact aq_finp hb0 rfl (.tmp rfl (by rfl) .nil) (by rfl) rfl ⟨rfl, rfl⟩
 replace h := ite_f hc11 h
 refine aw_skip ?_
 refine aq_then ?_
 refine aw_rs ?_
 refine .m rfl ?_
 refine .m rfl ?_
 refine .l 7 0 [] (.d (eGTree a1)) (.d (eGTree a1)) ty27 ?_
 refine .l 10 0 [] (.d (eGTx a4)) (.d (eGTx a4)) ty50 ?_
 obtain ⟨y12, hy13, h⟩ := bind_some h
 refine .v (f_callP hgl (by rfl) en18 rfl (by rfl) (by rfl) (by rfl) (F18_pool_Submit_ok hy13)) rfl (.c rfl (.c rfl (.c rfl (.c rfl .nil)))) .nil ?_
 refine .m rfl ?_
 refine .v1 (f_extract (by rfl) rfl) rfl rfl ?_
 refine .v1 (f_extract (by rfl) rfl) rfl rfl ?_
 refine .v1 (f_extract (by rfl) rfl) rfl rfl ?_
 refine .a rfl ?_
 refine .a rfl ?_
 refine .a rfl ?_
 refine .z ?_
 refine .m rfl ?_
 refine .m rfl ?_
 refine .l 7 0 [] (.d (eGTree a1)) (.d (eGTree a1)) ty27 ?_
 refine .m rfl ?_
 obtain ⟨y14, hy15, h⟩ := bind_some h
 refine .v (f_callP hgl (by rfl) en20 rfl (by rfl) (by rfl) (by rfl) (F20_pool_Draw_ok hy15)) rfl (.c rfl (.c rfl (.c rfl (.c rfl .nil)))) .nil ?_
 refine .m rfl ?_
 refine .v1 (f_extract (by rfl) rfl) rfl rfl ?_
 refine .v1 (f_extract (by rfl) rfl) rfl rfl ?_
 refine .v1 (f_extract (by rfl) rfl) rfl rfl ?_
 refine .a rfl ?_
 refine .a rfl ?_
 refine .a rfl ?_
 refine .z ?_
 refine .m rfl ?_
 refine .m rfl ?_
 refine .l 7 0 [] (.d (eGTree a1)) (.d (eGTree a1)) ty27 ?_
 refine .m rfl ?_
 obtain ⟨y16, hy17, h⟩ := bind_some h
 refine .v (f_callP hgl (by rfl) en22 rfl (by rfl) (by rfl) (by rfl) (F22_pool_Back_ok hy17)) rfl (.c rfl (.c rfl (.c rfl (.c rfl .nil)))) .nil ?_
 refine .m rfl ?_
 refine .v1 (f_extract (by rfl) rfl) rfl rfl ?_
 refine .v1 (f_extract (by rfl) rfl) rfl rfl ?_
 refine .v1 (f_extract (by rfl) rfl) rfl rfl ?_
 refine .a rfl ?_
 refine .a rfl ?_
 refine .a rfl ?_
 refine .z ?_
 refine .l 10 0 [] (.d (eGTx a4)) (.d (eGTx a4)) ty50 ?_
 obtain ⟨y18, hy19, h⟩ := bind_some h
 refine .v1 (f_callP hgl (by rfl) en27 rfl (by rfl) (by rfl) (by rfl) (F27_tx_From_ok hy19)) rfl rfl ?_
 refine .m rfl ?_
 refine .v1 (f_lenD (n := (a0).length) (by rfl) sl45 rfl (by simp)) rfl rfl ?_
 obtain ⟨y20, hy21, h⟩ := bind_some h
 refine .v2 (f_callP hgl (by rfl) en26 rfl (by rfl) (by rfl) (by rfl) (F26_pool_At_ok hy21)) rfl rfl rfl ?_
 refine .m rfl ?_
 refine .v1 (f_extract (by rfl) rfl) rfl rfl ?_
 refine .v1 (f_extract (by rfl) rfl) rfl rfl ?_
 refine .a rfl ?_
 refine .a rfl ?_
 refine .nil (aq_then ?_)
 refine aw_seq ?_
 refine aw_seq ?_
 obtain ⟨o46, ho61, h⟩ := bind_some h
 refine aw_join (.normal) ⟨[(13, .B y1), (14, .d (eL45 y12.1)), (16, .I y12.2.2), (17, .d (eL45 y14.1)), (19, .I y14.2.2), (20, .d (eL45 y16.1)), (22, .I y16.2.2), (107, .B o46)], [], []⟩ ?_ ?_
 ·replace h := ho61
  refine aw_r ?_
  refine .m rfl ?_
  refine .b rfl rfl rfl ?_
  refine .m rfl ?_
  rcases Bool.eq_false_or_eq_true (y12.2.2 == (0 : Int)) with hc22 | hc22
  ·replace h := ite_t hc22 h
   refine .g1 (f_move (by rfl)) rfl rfl rfl hc22 rfl ?_
   refine .g1 (f_move (by rfl)) rfl rfl rfl hc22 rfl ?_
   refine .g1 (f_move (by rfl)) rfl rfl rfl hc22 rfl ?_
   obtain ⟨y23, hy24, h⟩ := bind_some h
   refine .gv (f_callP hgl (by rfl) en28 rfl (by rfl) (by rfl) (by rfl) (F28_beadrolllaw21_apart_ok hy24)) rfl rfl rfl hc22 (.c rfl (.c rfl (.c rfl .nil))) .nil ?_
   refine .g1 (f_not (by rfl)) rfl rfl rfl hc22 rfl ?_
   refine .v2 (f_pick_true (by rfl) hc22) rfl rfl rfl ?_
   refine .m rfl ?_
   rcases Bool.eq_false_or_eq_true (!y23) with hc25 | hc25
   ·replace h := ite_t hc25 h
    refine .q rfl rfl rfl hc25 rfl ?_
    refine .q rfl rfl rfl hc25 rfl ?_
    refine .q rfl rfl rfl hc25 rfl ?_
    refine .offu rfl rfl rfl rfl (by rfl) ?_
    refine .offu rfl rfl rfl rfl (by rfl) ?_
    refine .offu rfl rfl rfl rfl (by rfl) ?_
    refine .offu rfl rfl rfl rfl (by rfl) ?_
    refine .offu rfl rfl rfl rfl (by rfl) ?_
    refine .q rfl rfl rfl hc25 rfl ?_
    refine .v2 (f_pick_true (by rfl) hc25) rfl rfl rfl ?_
    refine .m rfl ?_
    refine .q rfl rfl rfl rfl rfl ?_
    refine .q rfl rfl rfl rfl rfl ?_
    refine .q rfl rfl rfl rfl rfl ?_
    refine .offu rfl rfl rfl rfl (by rfl) ?_
    refine .offu rfl rfl rfl rfl (by rfl) ?_
    refine .offu rfl rfl rfl rfl (by rfl) ?_
    refine .offu rfl rfl rfl rfl (by rfl) ?_
    refine .offu rfl rfl rfl rfl (by rfl) ?_
    refine .q rfl rfl rfl rfl rfl ?_
    refine .v2 (f_pick_true (by rfl) rfl) rfl rfl rfl ?_
    refine .nil ?_
    obtain rfl := Option.some.inj h
    refine aq_k hb0 (.k 13 rfl (.k 14 rfl (.k 16 rfl (.k 17 rfl (.k 19 rfl (.k 20 rfl (.k 22 rfl (.k 107 rfl .nil)))))))) .nil ?_
    exact jq
   replace h := ite_f hc25 h
   refine .g1 (f_move (by rfl)) rfl rfl rfl hc25 rfl ?_
   refine .g2 (f_binI (by rfl) rfl (by rfl)) rfl rfl rfl hc25 rfl rfl ?_
   refine .g1 (f_move (by rfl)) rfl rfl rfl hc25 rfl ?_
   rcases Bool.eq_false_or_eq_true (y14.2.2 == (0 : Int)) with hc26 | hc26
   ·replace h := ite_t hc26 h
    refine .g1 (f_move (by rfl)) rfl rfl rfl hc26 rfl ?_
    refine .g1 (f_move (by rfl)) rfl rfl rfl hc26 rfl ?_
    refine .g1 (f_move (by rfl)) rfl rfl rfl hc26 rfl ?_
    obtain ⟨y27, hy28, h⟩ := bind_some h
    refine .gv (f_callP hgl (by rfl) en28 rfl (by rfl) (by rfl) (by rfl) (F28_beadrolllaw21_apart_ok hy28)) rfl rfl rfl hc26 (.c rfl (.c rfl (.c rfl .nil))) .nil ?_
    refine .g1 (f_not (by rfl)) rfl rfl rfl hc26 rfl ?_
    refine .g2 (f_pick_true (by rfl) hc26) rfl rfl rfl hc25 rfl rfl ?_
    refine .v2 (f_pick_false (by rfl) hc25) rfl rfl rfl ?_
    refine .m rfl ?_
    rcases Bool.eq_false_or_eq_true (!y27) with hc29 | hc29
    ·replace h := ite_t hc29 h
     refine .q rfl rfl rfl hc29 rfl ?_
     refine .q rfl rfl rfl hc29 rfl ?_
     refine .q rfl rfl rfl hc29 rfl ?_
     refine .offu rfl rfl rfl rfl (by rfl) ?_
     refine .offu rfl rfl rfl rfl (by rfl) ?_
     refine .offu rfl rfl rfl rfl (by rfl) ?_
     refine .offu rfl rfl rfl rfl (by rfl) ?_
     refine .offu rfl rfl rfl rfl (by rfl) ?_
     refine .q rfl rfl rfl hc29 rfl ?_
     refine .v2 (f_pick_true (by rfl) hc29) rfl rfl rfl ?_
     refine .nil ?_
     obtain rfl := Option.some.inj h
     refine aq_k hb0 (.k 13 rfl (.k 14 rfl (.k 16 rfl (.k 17 rfl (.k 19 rfl (.k 20 rfl (.k 22 rfl (.k 107 rfl .nil)))))))) .nil ?_
     exact jq
    replace h := ite_f hc29 h
    refine .g1 (f_move (by rfl)) rfl rfl rfl hc29 rfl ?_
    refine .g2 (f_binI (by rfl) rfl (by rfl)) rfl rfl rfl hc29 rfl rfl ?_
    refine .g1 (f_move (by rfl)) rfl rfl rfl hc29 rfl ?_
    rcases Bool.eq_false_or_eq_true (y16.2.2 == (0 : Int)) with hc30 | hc30
    ·replace h := ite_t hc30 h
     refine .g1 (f_move (by rfl)) rfl rfl rfl hc30 rfl ?_
     refine .g1 (f_move (by rfl)) rfl rfl rfl hc30 rfl ?_
     refine .g1 (f_move (by rfl)) rfl rfl rfl hc30 rfl ?_
     obtain ⟨y31, hy32, h⟩ := bind_some h
     refine .gv (f_callP hgl (by rfl) en28 rfl (by rfl) (by rfl) (by rfl) (F28_beadrolllaw21_apart_ok hy32)) rfl rfl rfl hc30 (.c rfl (.c rfl (.c rfl .nil))) .nil ?_
     refine .g1 (f_not (by rfl)) rfl rfl rfl hc30 rfl ?_
     refine .g2 (f_pick_true (by rfl) hc30) rfl rfl rfl hc29 rfl rfl ?_
     refine .v2 (f_pick_false (by rfl) hc29) rfl rfl rfl ?_
     refine .nil ?_
     obtain rfl := Option.some.inj h
     refine aq_k hb0 (.k 13 rfl (.k 14 rfl (.k 16 rfl (.k 17 rfl (.k 19 rfl (.k 20 rfl (.k 22 rfl (.k 107 rfl .nil)))))))) .nil ?_
     exact jq
    replace h := ite_f hc30 h
    refine .q rfl rfl rfl hc30 rfl ?_
    refine .q rfl rfl rfl hc30 rfl ?_
    refine .q rfl rfl rfl hc30 rfl ?_
    refine .q rfl rfl rfl hc30 rfl ?_
    refine .q rfl rfl rfl hc30 rfl ?_
    refine .g2 (f_pick_false (by rfl) hc30) rfl rfl rfl hc29 rfl rfl ?_
    refine .v2 (f_pick_false (by rfl) hc29) rfl rfl rfl ?_
    refine .nil ?_
    obtain rfl := Option.some.inj h
    refine aq_k hb0 (.k 13 rfl (.k 14 rfl (.k 16 rfl (.k 17 rfl (.k 19 rfl (.k 20 rfl (.k 22 rfl (.k 107 rfl .nil)))))))) .nil ?_
    exact jq
   replace h := ite_f hc26 h
   refine .q rfl rfl rfl hc26 rfl ?_
   refine .q rfl rfl rfl hc26 rfl ?_
   refine .q rfl rfl rfl hc26 rfl ?_
   refine .q rfl rfl rfl hc26 rfl ?_
   refine .q rfl rfl rfl hc26 rfl ?_
   refine .g2 (f_pick_false (by rfl) hc26) rfl rfl rfl hc25 rfl rfl ?_
   refine .v2 (f_pick_false (by rfl) hc25) rfl rfl rfl ?_
   refine .m rfl ?_
   refine .g1 (f_move (by rfl)) rfl rfl rfl rfl rfl ?_
   refine .g2 (f_binI (by rfl) rfl (by rfl)) rfl rfl rfl rfl rfl rfl ?_
   refine .g1 (f_move (by rfl)) rfl rfl rfl rfl rfl ?_
   rcases Bool.eq_false_or_eq_true (y16.2.2 == (0 : Int)) with hc33 | hc33
   ·replace h := ite_t hc33 h
    refine .g1 (f_move (by rfl)) rfl rfl rfl hc33 rfl ?_
    refine .g1 (f_move (by rfl)) rfl rfl rfl hc33 rfl ?_
    refine .g1 (f_move (by rfl)) rfl rfl rfl hc33 rfl ?_
    obtain ⟨y34, hy35, h⟩ := bind_some h
    refine .gv (f_callP hgl (by rfl) en28 rfl (by rfl) (by rfl) (by rfl) (F28_beadrolllaw21_apart_ok hy35)) rfl rfl rfl hc33 (.c rfl (.c rfl (.c rfl .nil))) .nil ?_
    refine .g1 (f_not (by rfl)) rfl rfl rfl hc33 rfl ?_
    refine .g2 (f_pick_true (by rfl) hc33) rfl rfl rfl rfl rfl rfl ?_
    refine .v2 (f_pick_false (by rfl) rfl) rfl rfl rfl ?_
    refine .nil ?_
    obtain rfl := Option.some.inj h
    refine aq_k hb0 (.k 13 rfl (.k 14 rfl (.k 16 rfl (.k 17 rfl (.k 19 rfl (.k 20 rfl (.k 22 rfl (.k 107 rfl .nil)))))))) .nil ?_
    exact jq
   replace h := ite_f hc33 h
   refine .q rfl rfl rfl hc33 rfl ?_
   refine .q rfl rfl rfl hc33 rfl ?_
   refine .q rfl rfl rfl hc33 rfl ?_
   refine .q rfl rfl rfl hc33 rfl ?_
   refine .q rfl rfl rfl hc33 rfl ?_
   refine .g2 (f_pick_false (by rfl) hc33) rfl rfl rfl rfl rfl rfl ?_
   refine .v2 (f_pick_false (by rfl) rfl) rfl rfl rfl ?_
   refine .nil ?_
   obtain rfl := Option.some.inj h
   refine aq_k hb0 (.k 13 rfl (.k 14 rfl (.k 16 rfl (.k 17 rfl (.k 19 rfl (.k 20 rfl (.k 22 rfl (.k 107 rfl .nil)))))))) .nil ?_
   exact jq
  replace h := ite_f hc22 h
  refine .q rfl rfl rfl hc22 rfl ?_
  refine .q rfl rfl rfl hc22 rfl ?_
  refine .q rfl rfl rfl hc22 rfl ?_
  refine .q rfl rfl rfl hc22 rfl ?_
  refine .q rfl rfl rfl hc22 rfl ?_
  refine .v2 (f_pick_false (by rfl) hc22) rfl rfl rfl ?_
  refine .m rfl ?_
  refine .g1 (f_move (by rfl)) rfl rfl rfl rfl rfl ?_
  refine .g2 (f_binI (by rfl) rfl (by rfl)) rfl rfl rfl rfl rfl rfl ?_
  refine .g1 (f_move (by rfl)) rfl rfl rfl rfl rfl ?_
  rcases Bool.eq_false_or_eq_true (y14.2.2 == (0 : Int)) with hc36 | hc36
  ·replace h := ite_t hc36 h
   refine .g1 (f_move (by rfl)) rfl rfl rfl hc36 rfl ?_
   refine .g1 (f_move (by rfl)) rfl rfl rfl hc36 rfl ?_
   refine .g1 (f_move (by rfl)) rfl rfl rfl hc36 rfl ?_
   obtain ⟨y37, hy38, h⟩ := bind_some h
   refine .gv (f_callP hgl (by rfl) en28 rfl (by rfl) (by rfl) (by rfl) (F28_beadrolllaw21_apart_ok hy38)) rfl rfl rfl hc36 (.c rfl (.c rfl (.c rfl .nil))) .nil ?_
   refine .g1 (f_not (by rfl)) rfl rfl rfl hc36 rfl ?_
   refine .g2 (f_pick_true (by rfl) hc36) rfl rfl rfl rfl rfl rfl ?_
   refine .v2 (f_pick_false (by rfl) rfl) rfl rfl rfl ?_
   refine .m rfl ?_
   rcases Bool.eq_false_or_eq_true (!y37) with hc39 | hc39
   ·replace h := ite_t hc39 h
    refine .q rfl rfl rfl hc39 rfl ?_
    refine .q rfl rfl rfl hc39 rfl ?_
    refine .q rfl rfl rfl hc39 rfl ?_
    refine .offu rfl rfl rfl rfl (by rfl) ?_
    refine .offu rfl rfl rfl rfl (by rfl) ?_
    refine .offu rfl rfl rfl rfl (by rfl) ?_
    refine .offu rfl rfl rfl rfl (by rfl) ?_
    refine .offu rfl rfl rfl rfl (by rfl) ?_
    refine .q rfl rfl rfl hc39 rfl ?_
    refine .v2 (f_pick_true (by rfl) hc39) rfl rfl rfl ?_
    refine .nil ?_
    obtain rfl := Option.some.inj h
    refine aq_k hb0 (.k 13 rfl (.k 14 rfl (.k 16 rfl (.k 17 rfl (.k 19 rfl (.k 20 rfl (.k 22 rfl (.k 107 rfl .nil)))))))) .nil ?_
    exact jq
   replace h := ite_f hc39 h
   refine .g1 (f_move (by rfl)) rfl rfl rfl hc39 rfl ?_
   refine .g2 (f_binI (by rfl) rfl (by rfl)) rfl rfl rfl hc39 rfl rfl ?_
   refine .g1 (f_move (by rfl)) rfl rfl rfl hc39 rfl ?_
   rcases Bool.eq_false_or_eq_true (y16.2.2 == (0 : Int)) with hc40 | hc40
   ·replace h := ite_t hc40 h
    refine .g1 (f_move (by rfl)) rfl rfl rfl hc40 rfl ?_
    refine .g1 (f_move (by rfl)) rfl rfl rfl hc40 rfl ?_
    refine .g1 (f_move (by rfl)) rfl rfl rfl hc40 rfl ?_
    obtain ⟨y41, hy42, h⟩ := bind_some h
    refine .gv (f_callP hgl (by rfl) en28 rfl (by rfl) (by rfl) (by rfl) (F28_beadrolllaw21_apart_ok hy42)) rfl rfl rfl hc40 (.c rfl (.c rfl (.c rfl .nil))) .nil ?_
    refine .g1 (f_not (by rfl)) rfl rfl rfl hc40 rfl ?_
    refine .g2 (f_pick_true (by rfl) hc40) rfl rfl rfl hc39 rfl rfl ?_
    refine .v2 (f_pick_false (by rfl) hc39) rfl rfl rfl ?_
    refine .nil ?_
    obtain rfl := Option.some.inj h
    refine aq_k hb0 (.k 13 rfl (.k 14 rfl (.k 16 rfl (.k 17 rfl (.k 19 rfl (.k 20 rfl (.k 22 rfl (.k 107 rfl .nil)))))))) .nil ?_
    exact jq
   replace h := ite_f hc40 h
   refine .q rfl rfl rfl hc40 rfl ?_
   refine .q rfl rfl rfl hc40 rfl ?_
   refine .q rfl rfl rfl hc40 rfl ?_
   refine .q rfl rfl rfl hc40 rfl ?_
   refine .q rfl rfl rfl hc40 rfl ?_
   refine .g2 (f_pick_false (by rfl) hc40) rfl rfl rfl hc39 rfl rfl ?_
   refine .v2 (f_pick_false (by rfl) hc39) rfl rfl rfl ?_
   refine .nil ?_
   obtain rfl := Option.some.inj h
   refine aq_k hb0 (.k 13 rfl (.k 14 rfl (.k 16 rfl (.k 17 rfl (.k 19 rfl (.k 20 rfl (.k 22 rfl (.k 107 rfl .nil)))))))) .nil ?_
   exact jq
  replace h := ite_f hc36 h
  refine .q rfl rfl rfl hc36 rfl ?_
  refine .q rfl rfl rfl hc36 rfl ?_
  refine .q rfl rfl rfl hc36 rfl ?_
  refine .q rfl rfl rfl hc36 rfl ?_
  refine .q rfl rfl rfl hc36 rfl ?_
  refine .g2 (f_pick_false (by rfl) hc36) rfl rfl rfl rfl rfl rfl ?_
  refine .v2 (f_pick_false (by rfl) rfl) rfl rfl rfl ?_
  refine .m rfl ?_
  refine .g1 (f_move (by rfl)) rfl rfl rfl rfl rfl ?_
  refine .g2 (f_binI (by rfl) rfl (by rfl)) rfl rfl rfl rfl rfl rfl ?_
  refine .g1 (f_move (by rfl)) rfl rfl rfl rfl rfl ?_
  rcases Bool.eq_false_or_eq_true (y16.2.2 == (0 : Int)) with hc43 | hc43
  ·replace h := ite_t hc43 h
   refine .g1 (f_move (by rfl)) rfl rfl rfl hc43 rfl ?_
   refine .g1 (f_move (by rfl)) rfl rfl rfl hc43 rfl ?_
   refine .g1 (f_move (by rfl)) rfl rfl rfl hc43 rfl ?_
   obtain ⟨y44, hy45, h⟩ := bind_some h
   refine .gv (f_callP hgl (by rfl) en28 rfl (by rfl) (by rfl) (by rfl) (F28_beadrolllaw21_apart_ok hy45)) rfl rfl rfl hc43 (.c rfl (.c rfl (.c rfl .nil))) .nil ?_
   refine .g1 (f_not (by rfl)) rfl rfl rfl hc43 rfl ?_
   refine .g2 (f_pick_true (by rfl) hc43) rfl rfl rfl rfl rfl rfl ?_
   refine .v2 (f_pick_false (by rfl) rfl) rfl rfl rfl ?_
   refine .nil ?_
   obtain rfl := Option.some.inj h
   refine aq_k hb0 (.k 13 rfl (.k 14 rfl (.k 16 rfl (.k 17 rfl (.k 19 rfl (.k 20 rfl (.k 22 rfl (.k 107 rfl .nil)))))))) .nil ?_
   exact jq
  replace h := ite_f hc43 h
  refine .q rfl rfl rfl hc43 rfl ?_
  refine .q rfl rfl rfl hc43 rfl ?_
  refine .q rfl rfl rfl hc43 rfl ?_
  refine .q rfl rfl rfl hc43 rfl ?_
  refine .q rfl rfl rfl hc43 rfl ?_
  refine .g2 (f_pick_false (by rfl) hc43) rfl rfl rfl rfl rfl rfl ?_
  refine .v2 (f_pick_false (by rfl) rfl) rfl rfl rfl ?_
  refine .nil ?_
  obtain rfl := Option.some.inj h
  refine aq_k hb0 (.k 13 rfl (.k 14 rfl (.k 16 rfl (.k 17 rfl (.k 19 rfl (.k 20 rfl (.k 22 rfl (.k 107 rfl .nil)))))))) .nil ?_
  exact jq
 refine aq_then ?_
 refine aw_cond rfl (fun hc47 => ?_) (fun hc47 => ?_)
 ·replace h := ite_t hc47 h
  refine aw_rs ?_
  refine .a rfl ?_
  refine .nil (aq_then ?_)
  refine aw_ret ?_
  refine aq_then_ret ?_
  obtain rfl := Option.some.inj h
  exact aq_finp hb0 rfl (.tmp rfl (by rfl) .nil) (by rfl) rfl ⟨rfl, rfl⟩
 replace h := ite_f hc47 h
 refine aw_skip ?_
 refine aq_then ?_
 refine aw_seq ?_
 obtain ⟨o59, ho60, h⟩ := bind_some h
 refine aw_join (.normal) ⟨[(12, .B o59)], [], []⟩ ?_ ?_
 ·replace h := ho60
  refine aw_r ?_
  refine .m rfl ?_
  refine .m rfl ?_
  rcases Bool.eq_false_or_eq_true y1 with hc48 | hc48
  ·replace h := ite_t hc48 h
   refine .g1 (f_move (by rfl)) rfl rfl rfl hc48 rfl ?_
   refine .g2 (f_binI (by rfl) rfl (by rfl)) rfl rfl rfl hc48 rfl rfl ?_
   refine .g1 (f_move (by rfl)) rfl rfl rfl hc48 rfl ?_
   rcases Bool.eq_false_or_eq_true (y12.2.2 == (0 : Int)) with hc49 | hc49
   ·replace h := ite_t hc49 h
    refine .q rfl rfl rfl hc49 rfl ?_
    refine .q rfl rfl rfl hc49 rfl ?_
    refine .q rfl rfl rfl hc49 rfl ?_
    refine .g2 (f_pick_true (by rfl) hc49) rfl rfl rfl hc48 rfl rfl ?_
    refine .v2 (f_pick_true (by rfl) hc48) rfl rfl rfl ?_
    refine .m rfl ?_
    refine .g1 (f_move (by rfl)) rfl rfl rfl rfl rfl ?_
    refine .g2 (f_binI (by rfl) rfl (by rfl)) rfl rfl rfl rfl rfl rfl ?_
    refine .g1 (f_move (by rfl)) rfl rfl rfl rfl rfl ?_
    rcases Bool.eq_false_or_eq_true (y14.2.2 == (0 : Int)) with hc50 | hc50
    ·replace h := ite_t hc50 h
     refine .q rfl rfl rfl hc50 rfl ?_
     refine .q rfl rfl rfl hc50 rfl ?_
     refine .q rfl rfl rfl hc50 rfl ?_
     refine .g2 (f_pick_true (by rfl) hc50) rfl rfl rfl rfl rfl rfl ?_
     refine .v2 (f_pick_true (by rfl) rfl) rfl rfl rfl ?_
     refine .m rfl ?_
     refine .g1 (f_move (by rfl)) rfl rfl rfl rfl rfl ?_
     refine .g2 (f_binI (by rfl) rfl (by rfl)) rfl rfl rfl rfl rfl rfl ?_
     refine .g1 (f_move (by rfl)) rfl rfl rfl rfl rfl ?_
     rcases Bool.eq_false_or_eq_true (y16.2.2 == (0 : Int)) with hc51 | hc51
     ·replace h := ite_t hc51 h
      refine .q rfl rfl rfl hc51 rfl ?_
      refine .q rfl rfl rfl hc51 rfl ?_
      refine .q rfl rfl rfl hc51 rfl ?_
      refine .g2 (f_pick_true (by rfl) hc51) rfl rfl rfl rfl rfl rfl ?_
      refine .v2 (f_pick_true (by rfl) rfl) rfl rfl rfl ?_
      refine .a rfl ?_
      refine .nil ?_
      obtain rfl := Option.some.inj h
      refine aq_k hb0 (.k 12 rfl .nil) .nil ?_
      exact jq
     replace h := ite_f hc51 h
     refine .g1 (f_move (by rfl)) rfl rfl rfl hc51 rfl ?_
     refine .g1 (f_lenD (n := (y16.1).length) (by rfl) sl45 rfl (by simp)) rfl rfl rfl hc51 rfl ?_
     refine .g2 (f_binI (by rfl) rfl (by rfl)) rfl rfl rfl hc51 rfl rfl ?_
     refine .g2 (f_pick_false (by rfl) hc51) rfl rfl rfl rfl rfl rfl ?_
     refine .v2 (f_pick_true (by rfl) rfl) rfl rfl rfl ?_
     refine .a rfl ?_
     refine .nil ?_
     obtain rfl := Option.some.inj h
     refine aq_k hb0 (.k 12 rfl .nil) .nil ?_
     exact jq
    replace h := ite_f hc50 h
    refine .g1 (f_move (by rfl)) rfl rfl rfl hc50 rfl ?_
    refine .g1 (f_lenD (n := (y14.1).length) (by rfl) sl45 rfl (by simp)) rfl rfl rfl hc50 rfl ?_
    refine .g2 (f_binI (by rfl) rfl (by rfl)) rfl rfl rfl hc50 rfl rfl ?_
    refine .g2 (f_pick_false (by rfl) hc50) rfl rfl rfl rfl rfl rfl ?_
    refine .v2 (f_pick_true (by rfl) rfl) rfl rfl rfl ?_
    refine .m rfl ?_
    rcases Bool.eq_false_or_eq_true (((y14.1).length : Int) == (0 : Int)) with hc52 | hc52
    ·replace h := ite_t hc52 h
     refine .g1 (f_move (by rfl)) rfl rfl rfl hc52 rfl ?_
     refine .g2 (f_binI (by rfl) rfl (by rfl)) rfl rfl rfl hc52 rfl rfl ?_
     refine .g1 (f_move (by rfl)) rfl rfl rfl hc52 rfl ?_
     rcases Bool.eq_false_or_eq_true (y16.2.2 == (0 : Int)) with hc53 | hc53
     ·replace h := ite_t hc53 h
      refine .q rfl rfl rfl hc53 rfl ?_
      refine .q rfl rfl rfl hc53 rfl ?_
      refine .q rfl rfl rfl hc53 rfl ?_
      refine .g2 (f_pick_true (by rfl) hc53) rfl rfl rfl hc52 rfl rfl ?_
      refine .v2 (f_pick_true (by rfl) hc52) rfl rfl rfl ?_
      refine .a rfl ?_
      refine .nil ?_
      obtain rfl := Option.some.inj h
      refine aq_k hb0 (.k 12 rfl .nil) .nil ?_
      exact jq
     replace h := ite_f hc53 h
     refine .g1 (f_move (by rfl)) rfl rfl rfl hc53 rfl ?_
     refine .g1 (f_lenD (n := (y16.1).length) (by rfl) sl45 rfl (by simp)) rfl rfl rfl hc53 rfl ?_
     refine .g2 (f_binI (by rfl) rfl (by rfl)) rfl rfl rfl hc53 rfl rfl ?_
     refine .g2 (f_pick_false (by rfl) hc53) rfl rfl rfl hc52 rfl rfl ?_
     refine .v2 (f_pick_true (by rfl) hc52) rfl rfl rfl ?_
     refine .a rfl ?_
     refine .nil ?_
     obtain rfl := Option.some.inj h
     refine aq_k hb0 (.k 12 rfl .nil) .nil ?_
     exact jq
    replace h := ite_f hc52 h
    refine .q rfl rfl rfl hc52 rfl ?_
    refine .q rfl rfl rfl hc52 rfl ?_
    refine .q rfl rfl rfl hc52 rfl ?_
    refine .offu rfl rfl rfl rfl (by rfl) ?_
    refine .offu rfl rfl rfl rfl (by rfl) ?_
    refine .offu rfl rfl rfl rfl (by rfl) ?_
    refine .q rfl rfl rfl hc52 rfl ?_
    refine .v2 (f_pick_false (by rfl) hc52) rfl rfl rfl ?_
    refine .a rfl ?_
    refine .nil ?_
    obtain rfl := Option.some.inj h
    refine aq_k hb0 (.k 12 rfl .nil) .nil ?_
    exact jq
   replace h := ite_f hc49 h
   refine .g1 (f_move (by rfl)) rfl rfl rfl hc49 rfl ?_
   refine .g1 (f_lenD (n := (y12.1).length) (by rfl) sl45 rfl (by simp)) rfl rfl rfl hc49 rfl ?_
   refine .g2 (f_binI (by rfl) rfl (by rfl)) rfl rfl rfl hc49 rfl rfl ?_
   refine .g2 (f_pick_false (by rfl) hc49) rfl rfl rfl hc48 rfl rfl ?_
   refine .v2 (f_pick_true (by rfl) hc48) rfl rfl rfl ?_
   refine .m rfl ?_
   rcases Bool.eq_false_or_eq_true (((y12.1).length : Int) == (0 : Int)) with hc54 | hc54
   ·replace h := ite_t hc54 h
    refine .g1 (f_move (by rfl)) rfl rfl rfl hc54 rfl ?_
    refine .g2 (f_binI (by rfl) rfl (by rfl)) rfl rfl rfl hc54 rfl rfl ?_
    refine .g1 (f_move (by rfl)) rfl rfl rfl hc54 rfl ?_
    rcases Bool.eq_false_or_eq_true (y14.2.2 == (0 : Int)) with hc55 | hc55
    ·replace h := ite_t hc55 h
     refine .q rfl rfl rfl hc55 rfl ?_
     refine .q rfl rfl rfl hc55 rfl ?_
     refine .q rfl rfl rfl hc55 rfl ?_
     refine .g2 (f_pick_true (by rfl) hc55) rfl rfl rfl hc54 rfl rfl ?_
     refine .v2 (f_pick_true (by rfl) hc54) rfl rfl rfl ?_
     refine .m rfl ?_
     refine .g1 (f_move (by rfl)) rfl rfl rfl rfl rfl ?_
     refine .g2 (f_binI (by rfl) rfl (by rfl)) rfl rfl rfl rfl rfl rfl ?_
     refine .g1 (f_move (by rfl)) rfl rfl rfl rfl rfl ?_
     rcases Bool.eq_false_or_eq_true (y16.2.2 == (0 : Int)) with hc56 | hc56
     ·replace h := ite_t hc56 h
      refine .q rfl rfl rfl hc56 rfl ?_
      refine .q rfl rfl rfl hc56 rfl ?_
      refine .q rfl rfl rfl hc56 rfl ?_
      refine .g2 (f_pick_true (by rfl) hc56) rfl rfl rfl rfl rfl rfl ?_
      refine .v2 (f_pick_true (by rfl) rfl) rfl rfl rfl ?_
      refine .a rfl ?_
      refine .nil ?_
      obtain rfl := Option.some.inj h
      refine aq_k hb0 (.k 12 rfl .nil) .nil ?_
      exact jq
     replace h := ite_f hc56 h
     refine .g1 (f_move (by rfl)) rfl rfl rfl hc56 rfl ?_
     refine .g1 (f_lenD (n := (y16.1).length) (by rfl) sl45 rfl (by simp)) rfl rfl rfl hc56 rfl ?_
     refine .g2 (f_binI (by rfl) rfl (by rfl)) rfl rfl rfl hc56 rfl rfl ?_
     refine .g2 (f_pick_false (by rfl) hc56) rfl rfl rfl rfl rfl rfl ?_
     refine .v2 (f_pick_true (by rfl) rfl) rfl rfl rfl ?_
     refine .a rfl ?_
     refine .nil ?_
     obtain rfl := Option.some.inj h
     refine aq_k hb0 (.k 12 rfl .nil) .nil ?_
     exact jq
    replace h := ite_f hc55 h
    refine .g1 (f_move (by rfl)) rfl rfl rfl hc55 rfl ?_
    refine .g1 (f_lenD (n := (y14.1).length) (by rfl) sl45 rfl (by simp)) rfl rfl rfl hc55 rfl ?_
    refine .g2 (f_binI (by rfl) rfl (by rfl)) rfl rfl rfl hc55 rfl rfl ?_
    refine .g2 (f_pick_false (by rfl) hc55) rfl rfl rfl hc54 rfl rfl ?_
    refine .v2 (f_pick_true (by rfl) hc54) rfl rfl rfl ?_
    refine .m rfl ?_
    rcases Bool.eq_false_or_eq_true (((y14.1).length : Int) == (0 : Int)) with hc57 | hc57
    ·replace h := ite_t hc57 h
     refine .g1 (f_move (by rfl)) rfl rfl rfl hc57 rfl ?_
     refine .g2 (f_binI (by rfl) rfl (by rfl)) rfl rfl rfl hc57 rfl rfl ?_
     refine .g1 (f_move (by rfl)) rfl rfl rfl hc57 rfl ?_
     rcases Bool.eq_false_or_eq_true (y16.2.2 == (0 : Int)) with hc58 | hc58
     ·replace h := ite_t hc58 h
      refine .q rfl rfl rfl hc58 rfl ?_
      refine .q rfl rfl rfl hc58 rfl ?_
      refine .q rfl rfl rfl hc58 rfl ?_
      refine .g2 (f_pick_true (by rfl) hc58) rfl rfl rfl hc57 rfl rfl ?_
      refine .v2 (f_pick_true (by rfl) hc57) rfl rfl rfl ?_
      refine .a rfl ?_
      refine .nil ?_
      obtain rfl := Option.some.inj h
      refine aq_k hb0 (.k 12 rfl .nil) .nil ?_
      exact jq
     replace h := ite_f hc58 h
     refine .g1 (f_move (by rfl)) rfl rfl rfl hc58 rfl ?_
     refine .g1 (f_lenD (n := (y16.1).length) (by rfl) sl45 rfl (by simp)) rfl rfl rfl hc58 rfl ?_
     refine .g2 (f_binI (by rfl) rfl (by rfl)) rfl rfl rfl hc58 rfl rfl ?_
     refine .g2 (f_pick_false (by rfl) hc58) rfl rfl rfl hc57 rfl rfl ?_
     refine .v2 (f_pick_true (by rfl) hc57) rfl rfl rfl ?_
     refine .a rfl ?_
     refine .nil ?_
     obtain rfl := Option.some.inj h
     refine aq_k hb0 (.k 12 rfl .nil) .nil ?_
     exact jq
    replace h := ite_f hc57 h
    refine .q rfl rfl rfl hc57 rfl ?_
    refine .q rfl rfl rfl hc57 rfl ?_
    refine .q rfl rfl rfl hc57 rfl ?_
    refine .offu rfl rfl rfl rfl (by rfl) ?_
    refine .offu rfl rfl rfl rfl (by rfl) ?_
    refine .offu rfl rfl rfl rfl (by rfl) ?_
    refine .q rfl rfl rfl hc57 rfl ?_
    refine .v2 (f_pick_false (by rfl) hc57) rfl rfl rfl ?_
    refine .a rfl ?_
    refine .nil ?_
    obtain rfl := Option.some.inj h
    refine aq_k hb0 (.k 12 rfl .nil) .nil ?_
    exact jq
   replace h := ite_f hc54 h
   refine .q rfl rfl rfl hc54 rfl ?_
   refine .q rfl rfl rfl hc54 rfl ?_
   refine .q rfl rfl rfl hc54 rfl ?_
   refine .offu rfl rfl rfl rfl (by rfl) ?_
   refine .offu rfl rfl rfl rfl (by rfl) ?_
   refine .offu rfl rfl rfl rfl (by rfl) ?_
   refine .q rfl rfl rfl hc54 rfl ?_
   refine .v2 (f_pick_false (by rfl) hc54) rfl rfl rfl ?_
   refine .m rfl ?_
   refine .q rfl rfl rfl rfl rfl ?_
   refine .q rfl rfl rfl rfl rfl ?_
   refine .q rfl rfl rfl rfl rfl ?_
   refine .offu rfl rfl rfl rfl (by rfl) ?_
   refine .offu rfl rfl rfl rfl (by rfl) ?_
   refine .offu rfl rfl rfl rfl (by rfl) ?_
   refine .q rfl rfl rfl rfl rfl ?_
   refine .v2 (f_pick_false (by rfl) rfl) rfl rfl rfl ?_
   refine .a rfl ?_
   refine .nil ?_
   obtain rfl := Option.some.inj h
   refine aq_k hb0 (.k 12 rfl .nil) .nil ?_
   exact jq
  replace h := ite_f hc48 h
  refine .q rfl rfl rfl hc48 rfl ?_
  refine .q rfl rfl rfl hc48 rfl ?_
  refine .q rfl rfl rfl hc48 rfl ?_
  refine .offu rfl rfl rfl rfl (by rfl) ?_
  refine .offu rfl rfl rfl rfl (by rfl) ?_
  refine .offu rfl rfl rfl rfl (by rfl) ?_
  refine .q rfl rfl rfl hc48 rfl ?_
  refine .v2 (f_pick_false (by rfl) hc48) rfl rfl rfl ?_
  refine .m rfl ?_
  refine .q rfl rfl rfl rfl rfl ?_
  refine .q rfl rfl rfl rfl rfl ?_
  refine .q rfl rfl rfl rfl rfl ?_
  refine .offu rfl rfl rfl rfl (by rfl) ?_
  refine .offu rfl rfl rfl rfl (by rfl) ?_
  refine .offu rfl rfl rfl rfl (by rfl) ?_
  refine .q rfl rfl rfl rfl rfl ?_
  refine .v2 (f_pick_false (by rfl) rfl) rfl rfl rfl ?_
  refine .m rfl ?_
  refine .q rfl rfl rfl rfl rfl ?_
  refine .q rfl rfl rfl rfl rfl ?_
  refine .q rfl rfl rfl rfl rfl ?_
  refine .offu rfl rfl rfl rfl (by rfl) ?_
  refine .offu rfl rfl rfl rfl (by rfl) ?_
  refine .offu rfl rfl rfl rfl (by rfl) ?_
  refine .q rfl rfl rfl rfl rfl ?_
  refine .v2 (f_pick_false (by rfl) rfl) rfl rfl rfl ?_
  refine .a rfl ?_
  refine .nil ?_
  obtain rfl := Option.some.inj h
  refine aq_k hb0 (.k 12 rfl .nil) .nil ?_
  exact jq
 refine aq_then ?_
 refine aw_ret ?_
 obtain rfl := Option.some.inj h
 exact aq_finp hb0 rfl (.tmp rfl (by rfl) .nil) (by rfl) rfl ⟨rfl, rfl⟩
end Go.Proofs.YtonfljoibcnlgaaGreatDoor
