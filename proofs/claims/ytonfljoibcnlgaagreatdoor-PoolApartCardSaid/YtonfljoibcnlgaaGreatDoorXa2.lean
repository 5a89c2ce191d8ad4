import Derived.Test.YtonfljoibcnlgaaGreatDoorXa1
namespace Go.Proofs.YtonfljoibcnlgaaGreatDoor
open Bd
set_option maxRecDepth 10000
def F6_beadrollref20_Great_s0 (a0 : GShard) (z0_0 : Int) (z0_1 : Int) : Option ((Int × Int) ⊕ (Int)) :=
  (((if (decide (z0_1 < ((a0.Lines).length : Int))) = true then some (decide (z0_1 < (20 : Int))) else some false)).bind fun (o2 : Bool) => (if o2 = true then ((rd a0.Lines z0_1).bind fun (x4 : GLine) => some (.inl ((IntKind.i64.wrap (z0_0 + (if (100 : Int) < ((x4.Txs).length : Int) then (100 : Int) else ((x4.Txs).length : Int)))), (IntKind.i64.wrap (z0_1 + (1 : Int)))))) else some (.inr z0_0)))
def F6_beadrollref20_Great (n : Nat) (a0 : GShard) : Option (Bool) :=
  ((loopF (fun (z : Int × Int) => F6_beadrollref20_Great_s0 a0 z.1 z.2) n ((0 : Int), (0 : Int))).bind fun (o8 : Int) => (((if (decide (((a0.Lines).length : Int) > (6 : Int))) = true then some true else some (decide (o8 > (20 : Int))))).bind fun (o11 : Bool) => some o11))
theorem F6_beadrollref20_Great_ok {n : Nat} {a0 : GShard} {r : Bool} (h : F6_beadrollref20_Great n a0 = some r) :
    ACall Tryz.prog GS 6 [.d (eGShard a0)] [] (fun r' hp' => r' = .B r ∧ hp' = []) := by
 refine acall_of_body mixed Tryz.func6 rfl (by rfl) ?_
 intro C hro hgl hb0
 unfold F6_beadrollref20_Great at h
 refine aw_rs ?_
 refine .n (f_box 1 (by rfl) (by rfl)) rfl (.c rfl .nil) rfl ?_
 refine .a rfl ?_
 refine .z ?_
 refine .a rfl ?_
 refine .nil (aq_then ?_)
 refine aw_seq ?_
 refine aw_rs ?_
 refine .a rfl ?_
 refine .nil (aq_then ?_)
 refine aw_block ?_
 refine aw_k hb0 (.k 1 rfl (.k 3 rfl (.k 4 rfl .nil))) (.k 1 rfl .nil) ?_
 obtain ⟨o8, ho9, h⟩ := bind_some h
 refine aw_loopX (σ := Int × Int) (fun z => ⟨[(1, .ptr 1 0 []), (3, .I z.1), (4, .I z.2)], [(1, .av (.d (eGShard a0)))], []⟩) (fun _ => (.exit 0)) (fun (o8 : Int) => ⟨[(1, .ptr 1 0 []), (3, .I o8)], [(1, .av (.d (eGShard a0)))], []⟩) ho9 (fun _ => rfl) ?_ ?_
 ·clear h ho9
  rintro ⟨z0_0, z0_1⟩ o h
  change F6_beadrollref20_Great_s0 a0 z0_0 z0_1 = some o at h
  unfold F6_beadrollref20_Great_s0 at h
  show AW _ _ _ ⟨[(1, .ptr 1 0 []), (3, .I z0_0), (4, .I z0_1)], [(1, .av (.d (eGShard a0)))], []⟩
  refine aw_seq ?_
  refine aw_seq ?_
  obtain ⟨o2, ho7, h⟩ := bind_some h
  refine aw_join (.normal) ⟨[(1, .ptr 1 0 []), (3, .I z0_0), (4, .I z0_1), (13, .B o2)], [(1, .av (.d (eGShard a0)))], []⟩ ?_ ?_
  ·replace h := ho7
   refine aw_r ?_
   refine .m rfl ?_
   refine .v1 (f_fieldAddr (n := 0) (by rfl) fl24_0 (by decide)) rfl rfl ?_
   refine .l 1 (0 + 0) [0] (.d (eGShard a0)) (.d (eL22 a0.Lines)) ty22 ?_
   refine .v1 (f_lenD (n := (a0.Lines).length) (by rfl) sl22 rfl (by simp)) rfl rfl ?_
   refine .b rfl rfl rfl ?_
   refine .m rfl ?_
   rcases Bool.eq_false_or_eq_true (decide (z0_1 < ((a0.Lines).length : Int))) with hc1 | hc1
   ·replace h := ite_t hc1 h
    refine .g1 (f_move (by rfl)) rfl rfl rfl hc1 rfl ?_
    refine .g2 (f_binI (by rfl) rfl (by rfl)) rfl rfl rfl hc1 rfl rfl ?_
    refine .v2 (f_pick_true (by rfl) hc1) rfl rfl rfl ?_
    refine .nil ?_
    obtain rfl := Option.some.inj h
    refine aq_k hb0 (.k 1 rfl (.k 3 rfl (.k 4 rfl (.k 13 rfl .nil)))) (.k 1 rfl .nil) ?_
    exact jq
   replace h := ite_f hc1 h
   refine .q rfl rfl rfl hc1 rfl ?_
   refine .q rfl rfl rfl hc1 rfl ?_
   refine .v2 (f_pick_false (by rfl) hc1) rfl rfl rfl ?_
   refine .nil ?_
   obtain rfl := Option.some.inj h
   refine aq_k hb0 (.k 1 rfl (.k 3 rfl (.k 4 rfl (.k 13 rfl .nil)))) (.k 1 rfl .nil) ?_
   exact jq
  refine aq_then ?_
  refine aw_cond rfl (fun hc3 => ?_) (fun hc3 => ?_)
  ·replace h := ite_t hc3 h
   refine aw_skip ?_
   refine aq_then ?_
   refine aw_seq ?_
   refine aw_block ?_
   refine aw_r ?_
   refine .m rfl ?_
   refine .v1 (f_fieldAddr (n := 0) (by rfl) fl24_0 (by decide)) rfl rfl ?_
   refine .l 1 (0 + 0) [0] (.d (eGShard a0)) (.d (eL22 a0.Lines)) ty22 ?_
   refine .m rfl ?_
   obtain ⟨x4, hx5, h⟩ := bind_some h
   obtain ⟨hx6, hx5⟩ := rd_some hx5
   refine .v2 (f_indexS (by rfl) sl22 hx6 (rd_map _ hx5)) rfl rfl rfl ?_
   refine .v1 (f_fieldAddrR (by rfl) fl69_1 (by decide) rfl) rfl rfl ?_
   refine .v1 (f_loadR (z := (eL28 x4.Txs)) (by rfl) ty28) rfl rfl ?_
   refine .v1 (f_lenD (n := (x4.Txs).length) (by rfl) sl28 rfl (by simp)) rfl rfl ?_
   refine .v2 (f_minI (by rfl)) rfl rfl rfl ?_
   refine .b rfl rfl rfl ?_
   refine .a rfl ?_
   refine .nil ?_
   refine aq_block ?_
   refine aq_then ?_
   refine aw_r ?_
   refine .m rfl ?_
   refine .b rfl rfl rfl ?_
   refine .a rfl ?_
   refine .nil ?_
   obtain rfl := Option.some.inj h
   refine aq_k hb0 (.k 1 rfl (.k 3 rfl (.k 4 rfl .nil))) (.k 1 rfl .nil) ?_
   exact jq
  replace h := ite_f hc3 h
  refine aw_exit ?_
  refine aq_then_exit ?_
  obtain rfl := Option.some.inj h
  refine aq_k hb0 (.k 1 rfl (.k 3 rfl .nil)) (.k 1 rfl .nil) ?_
  exact jq
 refine aq_block_exit ?_
 refine aq_then ?_
 refine aw_seq ?_
 obtain ⟨o11, ho12, h⟩ := bind_some h
 refine aw_join (.normal) ⟨[(2, .B o11)], [], []⟩ ?_ ?_
 ·replace h := ho12
  refine aw_r ?_
  refine .v1 (f_fieldAddr (n := 0) (by rfl) fl24_0 (by decide)) rfl rfl ?_
  refine .l 1 (0 + 0) [0] (.d (eGShard a0)) (.d (eL22 a0.Lines)) ty22 ?_
  refine .v1 (f_lenD (n := (a0.Lines).length) (by rfl) sl22 rfl (by simp)) rfl rfl ?_
  refine .b rfl rfl rfl ?_
  refine .m rfl ?_
  rcases Bool.eq_false_or_eq_true (decide (((a0.Lines).length : Int) > (6 : Int))) with hc10 | hc10
  ·replace h := ite_t hc10 h
   refine .q rfl rfl rfl hc10 rfl ?_
   refine .q rfl rfl rfl hc10 rfl ?_
   refine .v2 (f_pick_true (by rfl) hc10) rfl rfl rfl ?_
   refine .a rfl ?_
   refine .nil ?_
   obtain rfl := Option.some.inj h
   refine aq_k hb0 (.k 2 rfl .nil) .nil ?_
   exact jq
  replace h := ite_f hc10 h
  refine .g1 (f_move (by rfl)) rfl rfl rfl hc10 rfl ?_
  refine .g2 (f_binI (by rfl) rfl (by rfl)) rfl rfl rfl hc10 rfl rfl ?_
  refine .v2 (f_pick_false (by rfl) hc10) rfl rfl rfl ?_
  refine .a rfl ?_
  refine .nil ?_
  obtain rfl := Option.some.inj h
  refine aq_k hb0 (.k 2 rfl .nil) .nil ?_
  exact jq
 refine aq_then ?_
 refine aw_ret ?_
 obtain rfl := Option.some.inj h
 exact aq_finp hb0 rfl (.tmp rfl (by rfl) .nil) (by rfl) rfl ⟨rfl, rfl⟩
def F16_beadrollref21_Great_s0 (n : Nat) (a0 : (List GShard)) (z0_0 : Int) : Option ((Int) ⊕ ((Unit) ⊕ (Unit))) :=
  (((if (decide (z0_0 < ((a0).length : Int))) = true then some (decide (z0_0 < (10 : Int))) else some false)).bind fun (o2 : Bool) => (if o2 = true then ((rd a0 z0_0).bind fun (x4 : GShard) => ((F6_beadrollref20_Great n x4).bind fun (y7 : Bool) => (if y7 = true then some (.inr (.inr ())) else some (.inl (IntKind.i64.wrap (z0_0 + (1 : Int))))))) else some (.inr (.inl ()))))
def F16_beadrollref21_Great (n : Nat) (a0 : (List GShard)) : Option (Bool) :=
  ((loopF (fun (z : Int) => F16_beadrollref21_Great_s0 n a0 z) n (0 : Int)).bind (Sum.elim (fun (j11 : Unit) => some (decide (((a0).length : Int) > (10 : Int)))) (fun (j11 : Unit) => some true)))
theorem F16_beadrollref21_Great_ok {n : Nat} {a0 : (List GShard)} {r : Bool} (h : F16_beadrollref21_Great n a0 = some r) :
    ACall Tryz.prog GS 16 [.d (eL45 a0)] [] (fun r' hp' => r' = .B r ∧ hp' = []) := by
 refine acall_of_body mixed Tryz.func16 rfl (by rfl) ?_
 intro C hro hgl hb0
 unfold F16_beadrollref21_Great at h
 refine aw_rs ?_
 refine .a rfl ?_
 refine .nil (aq_then ?_)
 refine aw_seq ?_
 refine aw_rs ?_
 refine .a rfl ?_
 refine .nil (aq_then ?_)
 refine aw_block ?_
 refine aw_k hb0 (.k 0 rfl (.k 3 rfl .nil)) .nil ?_
 obtain ⟨o11, ho12, h⟩ := bind_some h
 refine aw_loopX (σ := Int) (fun z => ⟨[(0, .d (eL45 a0)), (3, .I z)], [], []⟩) (Sum.elim (fun _ => .exit 0) (fun _ => .ret)) (Sum.elim (fun j11 => ⟨[(0, .d (eL45 a0))], [], []⟩) (fun j11 => ⟨[(2, .B true)], [], []⟩)) ho12 (by intro b; rcases b with _ | _ <;> rfl) ?_ ?_
 ·clear h ho12
  intro z0_0 o h
  change F16_beadrollref21_Great_s0 n a0 z0_0 = some o at h
  unfold F16_beadrollref21_Great_s0 at h
  show AW _ _ _ ⟨[(0, .d (eL45 a0)), (3, .I z0_0)], [], []⟩
  refine aw_seq ?_
  refine aw_seq ?_
  obtain ⟨o2, ho10, h⟩ := bind_some h
  refine aw_join (.normal) ⟨[(0, .d (eL45 a0)), (3, .I z0_0), (11, .B o2)], [], []⟩ ?_ ?_
  ·replace h := ho10
   refine aw_r ?_
   refine .m rfl ?_
   refine .m rfl ?_
   refine .v1 (f_lenD (n := (a0).length) (by rfl) sl45 rfl (by simp)) rfl rfl ?_
   refine .b rfl rfl rfl ?_
   refine .m rfl ?_
   rcases Bool.eq_false_or_eq_true (decide (z0_0 < ((a0).length : Int))) with hc1 | hc1
   ·replace h := ite_t hc1 h
    refine .g1 (f_move (by rfl)) rfl rfl rfl hc1 rfl ?_
    refine .g2 (f_binI (by rfl) rfl (by rfl)) rfl rfl rfl hc1 rfl rfl ?_
    refine .v2 (f_pick_true (by rfl) hc1) rfl rfl rfl ?_
    refine .nil ?_
    obtain rfl := Option.some.inj h
    refine aq_k hb0 (.k 0 rfl (.k 3 rfl (.k 11 rfl .nil))) .nil ?_
    exact jq
   replace h := ite_f hc1 h
   refine .q rfl rfl rfl hc1 rfl ?_
   refine .q rfl rfl rfl hc1 rfl ?_
   refine .v2 (f_pick_false (by rfl) hc1) rfl rfl rfl ?_
   refine .nil ?_
   obtain rfl := Option.some.inj h
   refine aq_k hb0 (.k 0 rfl (.k 3 rfl (.k 11 rfl .nil))) .nil ?_
   exact jq
  refine aq_then ?_
  refine aw_cond rfl (fun hc3 => ?_) (fun hc3 => ?_)
  ·replace h := ite_t hc3 h
   refine aw_skip ?_
   refine aq_then ?_
   refine aw_seq ?_
   refine aw_block ?_
   refine aw_rs ?_
   refine .m rfl ?_
   refine .m rfl ?_
   obtain ⟨x4, hx5, h⟩ := bind_some h
   obtain ⟨hx6, hx5⟩ := rd_some hx5
   refine .v2 (f_indexS (by rfl) sl45 hx6 (rd_map _ hx5)) rfl rfl rfl ?_
   refine .v1 (f_loadR (z := (eGShard x4)) (by rfl) ty24) rfl rfl ?_
   obtain ⟨y7, hy8, h⟩ := bind_some h
   refine .v1 (f_callP hgl (by rfl) en6 rfl (by rfl) (by rfl) (by rfl) (F6_beadrollref20_Great_ok hy8)) rfl rfl ?_
   refine .nil (aq_then ?_)
   refine aw_cond rfl (fun hc9 => ?_) (fun hc9 => ?_)
   ·replace h := ite_t hc9 h
    refine aw_rs ?_
    refine .a rfl ?_
    refine .nil (aq_then ?_)
    refine aw_ret ?_
    refine aq_block_ret ?_
    refine aq_then_ret ?_
    obtain rfl := Option.some.inj h
    refine aq_k hb0 (.k 2 rfl .nil) .nil ?_
    exact jq
   replace h := ite_f hc9 h
   refine aw_skip ?_
   refine aq_block ?_
   refine aq_then ?_
   refine aw_r ?_
   refine .m rfl ?_
   refine .b rfl rfl rfl ?_
   refine .a rfl ?_
   refine .nil ?_
   obtain rfl := Option.some.inj h
   refine aq_k hb0 (.k 0 rfl (.k 3 rfl .nil)) .nil ?_
   exact jq
  replace h := ite_f hc3 h
  refine aw_exit ?_
  refine aq_then_exit ?_
  obtain rfl := Option.some.inj h
  refine aq_k hb0 (.k 0 rfl .nil) .nil ?_
  exact jq
 rcases o11 with j11 | j11
 ·replace h := elim_l h
  refine aq_block_exit ?_
  refine aq_then ?_
  refine aw_rs ?_
  refine .m rfl ?_
  refine .v1 (f_lenD (n := (a0).length) (by rfl) sl45 rfl (by simp)) rfl rfl ?_
  refine .b rfl rfl rfl ?_
  refine .a rfl ?_
  refine .nil (aq_then ?_)
  refine aw_ret ?_
  obtain rfl := Option.some.inj h
  exact aq_finp hb0 rfl (.tmp rfl (by rfl) .nil) (by rfl) rfl ⟨rfl, rfl⟩
 replace h := elim_r h
 refine aq_block_ret ?_
 refine aq_then_ret ?_
 obtain rfl := Option.some.inj h
 exact aq_finp hb0 rfl (.tmp rfl (by rfl) .nil) (by rfl) rfl ⟨rfl, rfl⟩
def F13_beadrollref20_Same_s0 (n : Nat) (a0 : GShard) (a1 : GShard) (z0_0 : Int) : Option ((Int) ⊕ ((Unit) ⊕ (Unit))) :=
  (if (decide (z0_0 < ((a0.Lines).length : Int))) = true then ((rd a0.Lines z0_0).bind fun (x3 : GLine) => ((rd a1.Lines z0_0).bind fun (x6 : GLine) => ((F48_beadrollref19_Same n x3 x6).bind fun (y9 : Bool) => (if (!y9) = true then some (.inr (.inr ())) else some (.inl (IntKind.i64.wrap (z0_0 + (1 : Int)))))))) else some (.inr (.inl ())))
def F13_beadrollref20_Same (n : Nat) (a0 : GShard) (a1 : GShard) : Option (Bool) :=
  (if (((a0.Lines).length : Int) != ((a1.Lines).length : Int)) = true then some false else ((loopF (fun (z : Int) => F13_beadrollref20_Same_s0 n a0 a1 z) n (0 : Int)).bind (Sum.elim (fun (j12 : Unit) => some true) (fun (j12 : Unit) => some false))))
theorem F13_beadrollref20_Same_ok {n : Nat} {a0 : GShard} {a1 : GShard} {r : Bool} (h : F13_beadrollref20_Same n a0 a1 = some r) :
    ACall Tryz.prog GS 13 [.d (eGShard a0), .d (eGShard a1)] [] (fun r' hp' => r' = .B r ∧ hp' = []) := by
 refine acall_of_body mixed Tryz.func13 rfl (by rfl) ?_
 intro C hro hgl hb0
 unfold F13_beadrollref20_Same at h
 refine aw_rs ?_
 refine .n (f_box 2 (by rfl) (by rfl)) rfl (.c rfl .nil) rfl ?_
 refine .n (f_box 3 (by rfl) (by rfl)) rfl (.c rfl .nil) rfl ?_
 refine .a rfl ?_
 refine .nil (aq_then ?_)
 refine aw_seq ?_
 refine aw_rs ?_
 refine .v1 (f_fieldAddr (n := 0) (by rfl) fl24_0 (by decide)) rfl rfl ?_
 refine .l 2 (0 + 0) [0] (.d (eGShard a0)) (.d (eL22 a0.Lines)) ty22 ?_
 refine .v1 (f_lenD (n := (a0.Lines).length) (by rfl) sl22 rfl (by simp)) rfl rfl ?_
 refine .v1 (f_fieldAddr (n := 0) (by rfl) fl24_0 (by decide)) rfl rfl ?_
 refine .l 3 (0 + 0) [0] (.d (eGShard a1)) (.d (eL22 a1.Lines)) ty22 ?_
 refine .v1 (f_lenD (n := (a1.Lines).length) (by rfl) sl22 rfl (by simp)) rfl rfl ?_
 refine .b rfl rfl rfl ?_
 refine .nil (aq_then ?_)
 refine aw_cond rfl (fun hc1 => ?_) (fun hc1 => ?_)
 ·replace h := ite_t hc1 h
  refine aw_rs ?_
  refine .a rfl ?_
  refine .nil (aq_then ?_)
  refine aw_ret ?_
  refine aq_then_ret ?_
  obtain rfl := Option.some.inj h
  exact aq_finp hb0 rfl (.tmp rfl (by rfl) .nil) (by rfl) rfl ⟨rfl, rfl⟩
 replace h := ite_f hc1 h
 refine aw_skip ?_
 refine aq_then ?_
 refine aw_seq ?_
 refine aw_rs ?_
 refine .a rfl ?_
 refine .nil (aq_then ?_)
 refine aw_block ?_
 refine aw_k hb0 (.k 2 rfl (.k 3 rfl (.k 5 rfl .nil))) (.k 2 rfl (.k 3 rfl .nil)) ?_
 obtain ⟨o12, ho13, h⟩ := bind_some h
 refine aw_loopX (σ := Int) (fun z => ⟨[(2, .ptr 2 0 []), (3, .ptr 3 0 []), (5, .I z)], [(2, .av (.d (eGShard a0))), (3, .av (.d (eGShard a1)))], []⟩) (Sum.elim (fun _ => .exit 0) (fun _ => .ret)) (Sum.elim (fun j12 => ⟨[], [], []⟩) (fun j12 => ⟨[(4, .B false)], [], []⟩)) ho13 (by intro b; rcases b with _ | _ <;> rfl) ?_ ?_
 ·clear h ho13
  intro z0_0 o h
  change F13_beadrollref20_Same_s0 n a0 a1 z0_0 = some o at h
  unfold F13_beadrollref20_Same_s0 at h
  show AW _ _ _ ⟨[(2, .ptr 2 0 []), (3, .ptr 3 0 []), (5, .I z0_0)], [(2, .av (.d (eGShard a0))), (3, .av (.d (eGShard a1)))], []⟩
  refine aw_seq ?_
  refine aw_rs ?_
  refine .m rfl ?_
  refine .v1 (f_fieldAddr (n := 0) (by rfl) fl24_0 (by decide)) rfl rfl ?_
  refine .l 2 (0 + 0) [0] (.d (eGShard a0)) (.d (eL22 a0.Lines)) ty22 ?_
  refine .v1 (f_lenD (n := (a0.Lines).length) (by rfl) sl22 rfl (by simp)) rfl rfl ?_
  refine .b rfl rfl rfl ?_
  refine .nil (aq_then ?_)
  refine aw_cond rfl (fun hc2 => ?_) (fun hc2 => ?_)
  ·replace h := ite_t hc2 h
   refine aw_skip ?_
   refine aq_then ?_
   refine aw_seq ?_
   refine aw_block ?_
   refine aw_rds ?_
   refine .v1 (f_fieldAddr (n := 0) (by rfl) fl24_0 (by decide)) rfl rfl ?_
   refine .v (f_load (n := 0) (o := 2) (off := (0 + 0)) (p := [0]) (c := .d (eGShard a0)) (z := .d (eL22 a0.Lines)) (by rfl) rfl ty22 (by rfl)) rfl (.c rfl .nil) (.cons rfl .nil) ?_
   refine .v1 (f_move (by rfl)) rfl rfl ?_
   obtain ⟨x3, hx4, h⟩ := bind_some h
   obtain ⟨hx5, hx4⟩ := rd_some hx4
   refine .v2 (f_indexS (by rfl) sl22 hx5 (rd_map _ hx4)) rfl rfl rfl ?_
   refine .v1 (f_loadR (z := (eGLine x3)) (by rfl) ty69) rfl rfl ?_
   refine .v1 (f_fieldAddr (n := 0) (by rfl) fl24_0 (by decide)) rfl rfl ?_
   refine .v (f_load (n := 0) (o := 3) (off := (0 + 0)) (p := [0]) (c := .d (eGShard a1)) (z := .d (eL22 a1.Lines)) (by rfl) rfl ty22 (by rfl)) rfl (.c rfl .nil) (.cons rfl .nil) ?_
   refine .v1 (f_move (by rfl)) rfl rfl ?_
   obtain ⟨x6, hx7, h⟩ := bind_some h
   obtain ⟨hx8, hx7⟩ := rd_some hx7
   refine .v2 (f_indexS (by rfl) sl22 hx8 (rd_map _ hx7)) rfl rfl rfl ?_
   refine .v1 (f_loadR (z := (eGLine x6)) (by rfl) ty69) rfl rfl ?_
   obtain ⟨y9, hy10, h⟩ := bind_some h
   refine .v2 (f_callP hgl (by rfl) en48 rfl (by rfl) (by rfl) (by rfl) (F48_beadrollref19_Same_ok hy10)) rfl rfl rfl ?_
   refine .v1 (f_not (by rfl)) rfl rfl ?_
   refine .nil (by kernel_rfl) ?_
   refine aw_cond rfl (fun hc11 => ?_) (fun hc11 => ?_)
   ·replace h := ite_t hc11 h
    refine aw_rs ?_
    refine .a rfl ?_
    refine .nil (aq_then ?_)
    refine aw_ret ?_
    refine aq_block_ret ?_
    refine aq_then_ret ?_
    obtain rfl := Option.some.inj h
    refine aq_k hb0 (.k 4 rfl .nil) .nil ?_
    exact jq
   replace h := ite_f hc11 h
   refine aw_skip ?_
   refine aq_block ?_
   refine aq_then ?_
   refine aw_r ?_
   refine .m rfl ?_
   refine .b rfl rfl rfl ?_
   refine .a rfl ?_
   refine .nil ?_
   obtain rfl := Option.some.inj h
   refine aq_k hb0 (.k 2 rfl (.k 3 rfl (.k 5 rfl .nil))) (.k 2 rfl (.k 3 rfl .nil)) ?_
   exact jq
  replace h := ite_f hc2 h
  refine aw_exit ?_
  refine aq_then_exit ?_
  obtain rfl := Option.some.inj h
  refine aq_k hb0 .nil .nil ?_
  exact jq
 rcases o12 with j12 | j12
 ·replace h := elim_l h
  refine aq_block_exit ?_
  refine aq_then ?_
  refine aw_rs ?_
  refine .a rfl ?_
  refine .nil (aq_then ?_)
  refine aw_ret ?_
  obtain rfl := Option.some.inj h
  exact aq_finp hb0 rfl (.tmp rfl (by rfl) .nil) (by rfl) rfl ⟨rfl, rfl⟩
 replace h := elim_r h
 refine aq_block_ret ?_
 refine aq_then_ret ?_
 obtain rfl := Option.some.inj h
 exact aq_finp hb0 rfl (.tmp rfl (by rfl) .nil) (by rfl) rfl ⟨rfl, rfl⟩
def F7_beadrollref06_Great_s0 (a0 : GTree) (a1 : Int) (z0_0 : Int) : Option ((Int) ⊕ ((Unit) ⊕ (Unit))) :=
  (((if (decide (z0_0 < ((a0.Nodes).length : Int))) = true then some (decide (z0_0 ≤ a1)) else some false)).bind fun (o2 : Bool) => (if o2 = true then ((rd a0.Nodes z0_0).bind fun (x4 : GNode) => (if (decide (((x4.Value).length : Int) > (100 : Int))) = true then some (.inr (.inr ())) else some (.inl (IntKind.i64.wrap (z0_0 + (1 : Int)))))) else some (.inr (.inl ()))))
def F7_beadrollref06_Great (n : Nat) (a0 : GTree) (a1 : Int) : Option (Bool) :=
  ((loopF (fun (z : Int) => F7_beadrollref06_Great_s0 a0 a1 z) n (0 : Int)).bind (Sum.elim (fun (j9 : Unit) => some (decide (((a0.Nodes).length : Int) > a1))) (fun (j9 : Unit) => some true)))
theorem F7_beadrollref06_Great_ok {n : Nat} {a0 : GTree} {a1 : Int} {r : Bool} (h : F7_beadrollref06_Great n a0 a1 = some r) :
    ACall Tryz.prog GS 7 [.d (eGTree a0), .I a1] [] (fun r' hp' => r' = .B r ∧ hp' = []) := by
 refine acall_of_body mixed Tryz.func7 rfl (by rfl) ?_
 intro C hro hgl hb0
 unfold F7_beadrollref06_Great at h
 refine aw_rs ?_
 refine .n (f_box 2 (by rfl) (by rfl)) rfl (.c rfl .nil) rfl ?_
 refine .a rfl ?_
 refine .nil (aq_then ?_)
 refine aw_seq ?_
 refine aw_rs ?_
 refine .a rfl ?_
 refine .nil (aq_then ?_)
 refine aw_block ?_
 refine aw_k hb0 (.k 1 rfl (.k 2 rfl (.k 5 rfl .nil))) (.k 2 rfl .nil) ?_
 obtain ⟨o9, ho10, h⟩ := bind_some h
 refine aw_loopX (σ := Int) (fun z => ⟨[(1, .I a1), (2, .ptr 2 0 []), (5, .I z)], [(2, .av (.d (eGTree a0)))], []⟩) (Sum.elim (fun _ => .exit 0) (fun _ => .ret)) (Sum.elim (fun j9 => ⟨[(1, .I a1), (2, .ptr 2 0 [])], [(2, .av (.d (eGTree a0)))], []⟩) (fun j9 => ⟨[(4, .B true)], [], []⟩)) ho10 (by intro b; rcases b with _ | _ <;> rfl) ?_ ?_
 ·clear h ho10
  intro z0_0 o h
  change F7_beadrollref06_Great_s0 a0 a1 z0_0 = some o at h
  unfold F7_beadrollref06_Great_s0 at h
  show AW _ _ _ ⟨[(1, .I a1), (2, .ptr 2 0 []), (5, .I z0_0)], [(2, .av (.d (eGTree a0)))], []⟩
  refine aw_seq ?_
  refine aw_seq ?_
  obtain ⟨o2, ho8, h⟩ := bind_some h
  refine aw_join (.normal) ⟨[(1, .I a1), (2, .ptr 2 0 []), (5, .I z0_0), (15, .B o2)], [(2, .av (.d (eGTree a0)))], []⟩ ?_ ?_
  ·replace h := ho8
   refine aw_r ?_
   refine .m rfl ?_
   refine .v1 (f_fieldAddr (n := 0) (by rfl) fl27_0 (by decide)) rfl rfl ?_
   refine .l 2 (0 + 0) [0] (.d (eGTree a0)) (.d (eL25 a0.Nodes)) ty25 ?_
   refine .v1 (f_lenD (n := (a0.Nodes).length) (by rfl) sl25 rfl (by simp)) rfl rfl ?_
   refine .b rfl rfl rfl ?_
   refine .m rfl ?_
   rcases Bool.eq_false_or_eq_true (decide (z0_0 < ((a0.Nodes).length : Int))) with hc1 | hc1
   ·replace h := ite_t hc1 h
    refine .g1 (f_move (by rfl)) rfl rfl rfl hc1 rfl ?_
    refine .g1 (f_move (by rfl)) rfl rfl rfl hc1 rfl ?_
    refine .g2 (f_binI (by rfl) rfl (by rfl)) rfl rfl rfl hc1 rfl rfl ?_
    refine .v2 (f_pick_true (by rfl) hc1) rfl rfl rfl ?_
    refine .nil ?_
    obtain rfl := Option.some.inj h
    refine aq_k hb0 (.k 1 rfl (.k 2 rfl (.k 5 rfl (.k 15 rfl .nil)))) (.k 2 rfl .nil) ?_
    exact jq
   replace h := ite_f hc1 h
   refine .q rfl rfl rfl hc1 rfl ?_
   refine .q rfl rfl rfl hc1 rfl ?_
   refine .q rfl rfl rfl hc1 rfl ?_
   refine .v2 (f_pick_false (by rfl) hc1) rfl rfl rfl ?_
   refine .nil ?_
   obtain rfl := Option.some.inj h
   refine aq_k hb0 (.k 1 rfl (.k 2 rfl (.k 5 rfl (.k 15 rfl .nil)))) (.k 2 rfl .nil) ?_
   exact jq
  refine aq_then ?_
  refine aw_cond rfl (fun hc3 => ?_) (fun hc3 => ?_)
  ·replace h := ite_t hc3 h
   refine aw_skip ?_
   refine aq_then ?_
   refine aw_seq ?_
   refine aw_block ?_
   refine aw_rs ?_
   refine .v1 (f_fieldAddr (n := 0) (by rfl) fl27_0 (by decide)) rfl rfl ?_
   refine .l 2 (0 + 0) [0] (.d (eGTree a0)) (.d (eL25 a0.Nodes)) ty25 ?_
   refine .m rfl ?_
   obtain ⟨x4, hx5, h⟩ := bind_some h
   obtain ⟨hx6, hx5⟩ := rd_some hx5
   refine .v2 (f_indexS (by rfl) sl25 hx6 (rd_map _ hx5)) rfl rfl rfl ?_
   refine .v1 (f_fieldAddrR (by rfl) fl72_2 (by decide) rfl) rfl rfl ?_
   refine .v1 (f_loadR (z := (eL70 x4.Value)) (by rfl) ty70) rfl rfl ?_
   refine .v1 (f_lenD (n := (x4.Value).length) (by rfl) sl70 rfl (by simp)) rfl rfl ?_
   refine .b rfl rfl rfl ?_
   refine .nil (aq_then ?_)
   refine aw_cond rfl (fun hc7 => ?_) (fun hc7 => ?_)
   ·replace h := ite_t hc7 h
    refine aw_rs ?_
    refine .a rfl ?_
    refine .nil (aq_then ?_)
    refine aw_ret ?_
    refine aq_block_ret ?_
    refine aq_then_ret ?_
    obtain rfl := Option.some.inj h
    refine aq_k hb0 (.k 4 rfl .nil) .nil ?_
    exact jq
   replace h := ite_f hc7 h
   refine aw_skip ?_
   refine aq_block ?_
   refine aq_then ?_
   refine aw_r ?_
   refine .m rfl ?_
   refine .b rfl rfl rfl ?_
   refine .a rfl ?_
   refine .nil ?_
   obtain rfl := Option.some.inj h
   refine aq_k hb0 (.k 1 rfl (.k 2 rfl (.k 5 rfl .nil))) (.k 2 rfl .nil) ?_
   exact jq
  replace h := ite_f hc3 h
  refine aw_exit ?_
  refine aq_then_exit ?_
  obtain rfl := Option.some.inj h
  refine aq_k hb0 (.k 1 rfl (.k 2 rfl .nil)) (.k 2 rfl .nil) ?_
  exact jq
 rcases o9 with j9 | j9
 ·replace h := elim_l h
  refine aq_block_exit ?_
  refine aq_then ?_
  refine aw_rs ?_
  refine .v1 (f_fieldAddr (n := 0) (by rfl) fl27_0 (by decide)) rfl rfl ?_
  refine .l 2 (0 + 0) [0] (.d (eGTree a0)) (.d (eL25 a0.Nodes)) ty25 ?_
  refine .v1 (f_lenD (n := (a0.Nodes).length) (by rfl) sl25 rfl (by simp)) rfl rfl ?_
  refine .m rfl ?_
  refine .b rfl rfl rfl ?_
  refine .a rfl ?_
  refine .nil (aq_then ?_)
  refine aw_ret ?_
  obtain rfl := Option.some.inj h
  exact aq_finp hb0 rfl (.tmp rfl (by rfl) .nil) (by rfl) rfl ⟨rfl, rfl⟩
 replace h := elim_r h
 refine aq_block_ret ?_
 refine aq_then_ret ?_
 obtain rfl := Option.some.inj h
 exact aq_finp hb0 rfl (.tmp rfl (by rfl) .nil) (by rfl) rfl ⟨rfl, rfl⟩
end Go.Proofs.YtonfljoibcnlgaaGreatDoor
