/-
  PRINTED by wip/pr3.py: for each Go function a Lean function with the same answers, and the proof.
-/
import Derived.Test.YtonfljoibcnlgaaDoorXa1
namespace Go.Proofs.YtonfljoibcnlgaaDoor
open Bd
set_option maxRecDepth 10000

/- 116: beadroll/tx.Body -/
def F116_tx_Body (n : Nat) (a0 : GTx) : Option ((List Int)) :=
  ((F139_api_Digest_70f n ([a0.Pub, a0.To] : List (List Int))).bind fun (y1 : List Int) => ((F141_tx_put_129 n ([a0.Nonce, a0.Amount, a0.Fee] : List Int) y1).bind fun (y3 : List Int) => some y3))
theorem F116_tx_Body_ok {n : Nat} {a0 : GTx} {r : (List Int)} (h : F116_tx_Body n a0 = some r) :
    ACall Tryd.prog GS 116 [.d (eGTx a0)] [] (fun r' hp' => r' = .d (eL139 r) ∧ hp' = []) := by
 refine acall_of_body mixed Tryd.func116 rfl (by rfl) ?_
 intro C hro hgl hb0
 unfold F116_tx_Body at h
 refine aw_rs ?_
 refine .n (f_box 1 (by rfl) (by rfl)) rfl (.c rfl .nil) rfl ?_
 refine .as rfl (by rfl) ?_
 refine .nil (aq_then ?_)
 refine aw_rs ?_
 refine .v (f_fieldAddr (n := 0) (by rfl) fl36_0 (by decide)) rfl (.c rfl .nil) .nil ?_
 refine .v (f_load (n := 0) (o := 1) (off := (0 + 0)) (p := [0]) (c := .d (eGTx a0)) (z := .d (eA22 a0.Pub)) (by rfl) rfl ty23 (by rfl)) rfl (.c rfl .nil) (.cons rfl .nil) ?_
 refine .v (f_fieldAddr (n := 32) (by rfl) fl36_1 (by decide)) rfl (.c rfl .nil) .nil ?_
 refine .v (f_load (n := 0) (o := 1) (off := (0 + 32)) (p := [1]) (c := .d (eGTx a0)) (z := .d (eA22 a0.To)) (by rfl) rfl ty23 (by rfl)) rfl (.c rfl .nil) (.cons rfl .nil) ?_
 refine .n (f_buildS (xs := [(0, .d (eA22 a0.Pub)), (1, .d (eA22 a0.To))]) (z := (eA22 (List.replicate 32 (0 : Int)))) (zs := (([a0.Pub, a0.To] : List (List Int))).map eA22) 1049 (by rfl) el184 zel184 (by rfl) (by decide) (by decide) rfl (by rfl) ⟨_, _, _, rfl, pl184_0, rfl, rfl, ⟨_, _, _, rfl, pl184_1, rfl, rfl, trivial⟩⟩ (by rfl)) rfl (.c rfl (.c rfl .nil)) rfl ?_
 obtain ⟨y1, hy2, h⟩ := bind_some h
 refine .w (f_callH (xs := [.d (.val (.slice none 0 0)), .slc 1049 0 ((([a0.Pub, a0.To] : List (List Int))).length) 32, .fn (.func 140) [] []]) (r := .slc 1054 0 ((y1).length) 1) (hw := [(1054, .av (.d (.arr 1 ((y1).length) ((y1).map eI_u8))))]) (fun i => bif Nat.beq i 1051 then 1054 else i) [(1049, (.arr 32 ((([a0.Pub, a0.To] : List (List Int))).length) ((([a0.Pub, a0.To] : List (List Int))).map eA22)))] hgl (by rfl) (cal_f en139) rfl (by rfl) (by rfl) (by rfl) (by rfl) (by rfl) (.cons (.same _) (.cons (.whole (.head _)) (.cons (.same _) .nil))) rfl rfl rfl rfl (by rfl) trivial ⟨(flat_arr fun _ => flat_val), trivial⟩ (F139_api_Digest_70f_ok hy2)) rfl (.c rfl (.c rfl (.c rfl .nil))) (.cons rfl .nil) (.cons rfl .nil) ?_
 refine .as rfl (by rfl) ?_
 refine .nil (aq_then ?_)
 refine aw_rs ?_
 refine .mv rfl (by rfl) ?_
 refine .v (f_fieldAddr (n := 64) (by rfl) fl36_2 (by decide)) rfl (.c rfl .nil) .nil ?_
 refine .v (f_load (n := 0) (o := 1) (off := (0 + 64)) (p := [2]) (c := .d (eGTx a0)) (z := .d (.val (.int .u64 a0.Nonce))) (by rfl) rfl ty27 (by rfl)) rfl (.c rfl .nil) (.cons rfl .nil) ?_
 refine .v (f_fieldAddr (n := 65) (by rfl) fl36_3 (by decide)) rfl (.c rfl .nil) .nil ?_
 refine .v (f_load (n := 0) (o := 1) (off := (0 + 65)) (p := [3]) (c := .d (eGTx a0)) (z := .d (.val (.int .u64 a0.Amount))) (by rfl) rfl ty27 (by rfl)) rfl (.c rfl .nil) (.cons rfl .nil) ?_
 refine .v (f_fieldAddr (n := 66) (by rfl) fl36_4 (by decide)) rfl (.c rfl .nil) .nil ?_
 refine .v (f_load (n := 0) (o := 1) (off := (0 + 66)) (p := [4]) (c := .d (eGTx a0)) (z := .d (.val (.int .u64 a0.Fee))) (by rfl) rfl ty27 (by rfl)) rfl (.c rfl .nil) (.cons rfl .nil) ?_
 refine .n (f_buildS (xs := [(0, .d (.val (.int .u64 a0.Nonce))), (1, .d (.val (.int .u64 a0.Amount))), (2, .d (.val (.int .u64 a0.Fee)))]) (z := (.val (.int .u64 (0 : Int)))) (zs := (([a0.Nonce, a0.Amount, a0.Fee] : List Int)).map eI_u64) 1055 (by rfl) el187 zel187 (by rfl) (by decide) (by decide) rfl (by rfl) ⟨_, _, _, rfl, pl187_0, rfl, rfl, ⟨_, _, _, rfl, pl187_1, rfl, rfl, ⟨_, _, _, rfl, pl187_2, rfl, rfl, trivial⟩⟩⟩ (by rfl)) rfl (.c rfl (.c rfl (.c rfl .nil))) rfl ?_
 obtain ⟨y3, hy4, h⟩ := bind_some h
 refine .w (f_callH (xs := [.slc 1054 0 ((y1).length) 1, .slc 1055 0 ((([a0.Nonce, a0.Amount, a0.Fee] : List Int)).length) 1, .fn (.func 142) [] []]) (r := .slc 1060 0 ((y3).length) 1) (hw := [(1060, .av (.d (.arr 1 ((y3).length) ((y3).map eI_u8)))), (1054, .dead)]) (fun i => bif Nat.beq i 1057 then 1060 else (bif Nat.beq i 0 then 1054 else i)) [(1055, (.arr 1 ((([a0.Nonce, a0.Amount, a0.Fee] : List Int)).length) ((([a0.Nonce, a0.Amount, a0.Fee] : List Int)).map eI_u64)))] hgl (by rfl) (cal_f en141) rfl (by rfl) (by rfl) (by rfl) (by rfl) (by rfl) (.cons (.same _) (.cons (.whole (.head _)) (.cons (.same _) .nil))) rfl rfl rfl rfl (by rfl) trivial ⟨(flat_arr fun _ => flat_val), trivial⟩ (F141_tx_put_129_ok hy4)) rfl (.c rfl (.c rfl (.c rfl .nil))) (.cons rfl (.cons rfl .nil)) (.cons rfl .nil) ?_
 refine .as rfl (by rfl) ?_
 refine .nil (aq_then ?_)
 refine aw_ret ?_
 obtain rfl := Option.some.inj h
 refine aq_freeze [(1060, (.arr 1 ((y3).length) ((y3).map eI_u8)))] [(2, .d (eL139 y3))] (.cons rfl .nil) (.cons rfl (.whole (.head _)) .nil) ?_
 exact aq_finp hb0 rfl (.tmp rfl (by rfl) .nil) (by rfl) rfl ⟨rfl, rfl⟩

/- 115: beadroll/tag.Of -/
def F115_tag_Of (n : Nat) (a0 : Int) (a1 : (List (List Int))) : Option ((List Int)) :=
  ((F138_tag_Bytes n a0 a1).bind fun (y1 : (List Int)) => ((F137_sha_Of n ([y1] : List (List Int))).bind fun (y3 : (List Int)) => some y3))
theorem F115_tag_Of_ok {n : Nat} {a0 : Int} {a1 : (List (List Int))} {r : (List Int)} (h : F115_tag_Of n a0 a1 = some r) :
    ACall Tryd.prog GS 115 [.d (.val (.int .u8 a0)), .d (eL180 a1)] [] (fun r' hp' => r' = .d (eA22 r) ∧ hp' = []) := by
 refine acall_of_body mixed Tryd.func115 rfl (by rfl) ?_
 intro C hro hgl hb0
 unfold F115_tag_Of at h
 refine aw_rs ?_
 refine .n (f_alloc 4 (by rfl) zr23) rfl .nil rfl ?_
 refine .nil (aq_then ?_)
 refine aw_rs ?_
 refine .mv rfl (by rfl) ?_
 refine .mv rfl (by rfl) ?_
 obtain ⟨y1, hy2, h⟩ := bind_some h
 refine .v (f_callP hgl (by rfl) en138 rfl (by rfl) (by rfl) (by rfl) (F138_tag_Bytes_ok hy2)) rfl (.c rfl (.c rfl .nil)) .nil ?_
 refine .n (f_buildS (xs := [(0, .d (eL139 y1))]) (z := (.val (.slice none 0 0))) (zs := (([y1] : List (List Int))).map eL139) 1061 (by rfl) el180 zel180 (by rfl) (by decide) (by decide) rfl (by rfl) ⟨_, _, _, rfl, pl180_0, rfl, rfl, trivial⟩ (by rfl)) rfl (.c rfl .nil) rfl ?_
 obtain ⟨y3, hy4, h⟩ := bind_some h
 refine .w (f_callH0 (xs := [.slc 1061 0 ((([y1] : List (List Int))).length) 1]) (r := .d (eA22 y3)) (hr := []) (fun i => i) [(1061, (.arr 1 ((([y1] : List (List Int))).length) ((([y1] : List (List Int))).map eL139)))] hgl (by rfl) (cal_f en137) rfl (by rfl) (by rfl) (by rfl) (by rfl) (by rfl) (.cons (.whole (.head _)) .nil) rfl rfl (fl_eA22 _) trivial (F137_sha_Of_ok hy4)) rfl (.c rfl .nil) (.cons rfl .nil) .nil ?_
 refine .s (f_store (n := 0) (o := 4) (off := 0) (p := []) (c := .d (eA22 (List.replicate 32 (0 : Int)))) (old := .d (eA22 (List.replicate 32 (0 : Int)))) (z := .d (eA22 y3)) (c' := .d (eA22 y3)) rfl rfl (by rfl) ty23 (by rfl)) rfl (.c rfl (.c rfl .nil)) (.cons rfl .nil) ?_
 refine .nil (aq_then ?_)
 refine aw_ret ?_
 obtain rfl := Option.some.inj h
 exact aq_finp hb0 rfl (.cell rfl rfl ty23 (by rfl) .nil) (by rfl) rfl ⟨rfl, rfl⟩

/- 87: beadroll/beadrollref19.Own -/
def F87_beadrollref19_Own (n : Nat) (a0 : GTx) (a1 : (List Int)) : Option (Bool) :=
  ((((F117_beadrollref11_Check n a0).bind fun (y1 : Int) => (if (y1 == (0 : Int)) = true then ((F118_beadrollref11_From n a0).bind fun (y4 : (List Int)) => some (decide (y4 = a1))) else some false))).bind fun (o6 : Bool) => some o6)
theorem F87_beadrollref19_Own_ok {n : Nat} {a0 : GTx} {a1 : (List Int)} {r : Bool} (h : F87_beadrollref19_Own n a0 a1 = some r) :
    ACall Tryd.prog GS 87 [.d (eGTx a0), .d (eA22 a1)] [] (fun r' hp' => r' = .d (.val (.bool r)) ∧ hp' = []) := by
 refine acall_of_body mixed Tryd.func87 rfl (by rfl) ?_
 intro C hro hgl hb0
 unfold F87_beadrollref19_Own at h
 refine aw_rs ?_
 refine .n (f_box 2 (by rfl) (by rfl)) rfl (.c rfl .nil) rfl ?_
 refine .n (f_box 3 (by rfl) (by rfl)) rfl (.c rfl .nil) rfl ?_
 refine .as rfl (by rfl) ?_
 refine .nil (aq_then ?_)
 refine aw_seq ?_
 obtain ⟨o6, ho7, h⟩ := bind_some h
 refine aw_join (.normal) ⟨[(4, .d (.val (.bool o6)))], [], []⟩ ?_ ?_
 · replace h := ho7
   refine aw_rd ?_
   refine .v (f_load (n := 0) (o := 2) (off := 0) (p := []) (c := .d (eGTx a0)) (z := .d (eGTx a0)) (by rfl) rfl ty36 (by rfl)) rfl (.c rfl .nil) (.cons rfl .nil) ?_
   obtain ⟨y1, hy2, h⟩ := bind_some h
   refine .v (f_callP hgl (by rfl) en117 rfl (by rfl) (by rfl) (by rfl) (F117_beadrollref11_Check_ok hy2)) rfl (.c rfl .nil) .nil ?_
   refine .v (f_binI (by rfl) rfl (by rfl)) rfl (.c rfl (.c rfl .nil)) .nil ?_
   refine .v (f_move (by rfl)) rfl (.c rfl .nil) .nil ?_
   rcases Bool.eq_false_or_eq_true (y1 == (0 : Int)) with hc3 | hc3
   · replace h := ite_t hc3 h
     refine .gv (f_load (n := 0) (o := 2) (off := 0) (p := []) (c := .d (eGTx a0)) (z := .d (eGTx a0)) (by rfl) rfl ty36 (by rfl)) rfl rfl rfl hc3 (.c rfl .nil) (.cons rfl .nil) ?_
     obtain ⟨y4, hy5, h⟩ := bind_some h
     refine .gv (f_callP hgl (by rfl) en118 rfl (by rfl) (by rfl) (by rfl) (F118_beadrollref11_From_ok hy5)) rfl rfl rfl hc3 (.c rfl .nil) .nil ?_
     refine .gv (f_load (n := 0) (o := 3) (off := 0) (p := []) (c := .d (eA22 a1)) (z := .d (eA22 a1)) (by rfl) rfl ty23 (by rfl)) rfl rfl rfl hc3 (.c rfl .nil) (.cons rfl .nil) ?_
     refine .gv (f_eqlT (by rfl) (fit23 _) (fit23 _) (by rfl) (by rfl) gd23 (eq_eA22 _ _)) rfl rfl rfl hc3 (.c rfl (.c rfl .nil)) .nil ?_
     refine .v (f_pick_true (by rfl) hc3) rfl (.c rfl (.c rfl .nil)) .nil ?_
     refine .v (f_assign (by rfl)) rfl (.c rfl .nil) .nil ?_
     refine .nil (by kernel_rfl) ?_
     obtain rfl := Option.some.inj h
     refine aq_weak (s' := ⟨[(4, .d (.val (.bool (decide (y4 = a1)))))], [], []⟩) id hb0 (.keep rfl .nil) .nil rfl (by rfl) ?_
     exact jq
   replace h := ite_f hc3 h
   refine .off rfl rfl rfl hc3 rfl (by rfl) ?_
   refine .off rfl rfl rfl hc3 rfl (by rfl) ?_
   refine .off rfl rfl rfl hc3 rfl (by rfl) ?_
   refine .off rfl rfl rfl hc3 rfl (by rfl) ?_
   refine .v (f_pick_false (by rfl) hc3) rfl (.c rfl (.c rfl .nil)) .nil ?_
   refine .v (f_assign (by rfl)) rfl (.c rfl .nil) .nil ?_
   refine .nil (by kernel_rfl) ?_
   obtain rfl := Option.some.inj h
   refine aq_weak (s' := ⟨[(4, .d (.val (.bool false)))], [], []⟩) id hb0 (.keep rfl .nil) .nil rfl (by rfl) ?_
   exact jq
 refine aq_then ?_
 refine aw_ret ?_
 obtain rfl := Option.some.inj h
 exact aq_finp hb0 rfl (.tmp rfl (by rfl) .nil) (by rfl) rfl ⟨rfl, rfl⟩

/- 86: beadroll/beadrollref19.May -/
def F86_beadrollref19_May_s0 (n : Nat) (a0 : GLine) (z0_0 : Int) : Option ((Int) ⊕ ((Unit) ⊕ (Unit))) :=
  (if (decide (z0_0 < ((a0.Txs).length : Int))) = true then ((((rd a0.Txs z0_0).bind fun (x3 : GTx) => ((F87_beadrollref19_Own n x3 a0.From).bind fun (y6 : Bool) => (if (!y6) = true then some true else (if (decide (z0_0 > (0 : Int))) = true then ((rd a0.Txs z0_0).bind fun (x10 : GTx) => ((rd a0.Txs (IntKind.i64.wrap (z0_0 - (1 : Int)))).bind fun (x13 : GTx) => some (decide (x10.Nonce ≤ x13.Nonce)))) else some false))))).bind fun (o16 : Bool) => (if o16 = true then some (.inr (.inr ())) else some (.inl (IntKind.i64.wrap (z0_0 + (1 : Int)))))) else some (.inr (.inl ())))
def F86_beadrollref19_May (n : Nat) (a0 : GLine) : Option (Bool) :=
  (if (decide (((a0.Txs).length : Int) > (256 : Int))) = true then some false else ((loopF (fun (z : Int) => F86_beadrollref19_May_s0 n a0 z) n (0 : Int)).bind (Sum.elim (fun (j19 : Unit) => some true) (fun (j19 : Unit) => some false))))
theorem F86_beadrollref19_May_ok {n : Nat} {a0 : GLine} {r : Bool} (h : F86_beadrollref19_May n a0 = some r) :
    ACall Tryd.prog GS 86 [.d (eGLine a0)] [] (fun r' hp' => r' = .d (.val (.bool r)) ∧ hp' = []) := by
 refine acall_of_body mixed Tryd.func86 rfl (by rfl) ?_
 intro C hro hgl hb0
 unfold F86_beadrollref19_May at h
 refine aw_rs ?_
 refine .n (f_box 1 (by rfl) (by rfl)) rfl (.c rfl .nil) rfl ?_
 refine .as rfl (by rfl) ?_
 refine .nil (aq_then ?_)
 refine aw_seq ?_
 refine aw_rs ?_
 refine .v (f_fieldAddr (n := 32) (by rfl) fl26_1 (by decide)) rfl (.c rfl .nil) .nil ?_
 refine .v (f_load (n := 0) (o := 1) (off := (0 + 32)) (p := [1]) (c := .d (eGLine a0)) (z := .d (eL24 a0.Txs)) (by rfl) rfl ty24 (by rfl)) rfl (.c rfl .nil) (.cons rfl .nil) ?_
 refine .v (f_lenD (n := (a0.Txs).length) (by rfl) sl24 rfl (by simp)) rfl (.c rfl .nil) .nil ?_
 refine .v (f_binI (by rfl) rfl (by rfl)) rfl (.c rfl (.c rfl .nil)) .nil ?_
 refine .nil (aq_then ?_)
 refine aw_cond rfl (fun hc1 => ?_) (fun hc1 => ?_)
 · replace h := ite_t hc1 h
   refine aw_rs ?_
   refine .as rfl (by rfl) ?_
   refine .nil (aq_then ?_)
   refine aw_ret ?_
   refine aq_then_ret ?_
   obtain rfl := Option.some.inj h
   exact aq_finp hb0 rfl (.tmp rfl (by rfl) .nil) (by rfl) rfl ⟨rfl, rfl⟩
 replace h := ite_f hc1 h
 refine aw_skip ?_
 refine aq_then ?_
 refine aw_seq ?_
 refine aw_rs ?_
 refine .as rfl (by rfl) ?_
 refine .nil (aq_then ?_)
 refine aw_block ?_
 refine aw_weak (s' := ⟨[(1, .ptr 1 0 []), (3, .d (.val (.int .i64 (0 : Int))))], [(1, .av (.d (eGLine a0)))], []⟩) id hb0 (.keep rfl (.keep rfl .nil)) (.keep rfl .nil) rfl (by rfl) ?_
 obtain ⟨o19, ho20, h⟩ := bind_some h
 refine aw_loopX (σ := Int) (fun z => ⟨[(1, .ptr 1 0 []), (3, .d (.val (.int .i64 z)))], [(1, .av (.d (eGLine a0)))], []⟩) (Sum.elim (fun _ => .exit 0) (fun _ => .ret)) (Sum.elim (fun j19 => ⟨[], [], []⟩) (fun j19 => ⟨[(2, .d (.val (.bool false)))], [], []⟩)) ho20 (by intro b; rcases b with _ | _ <;> rfl) ?_ ?_
 · clear h ho20
   intro z0_0 o h
   change F86_beadrollref19_May_s0 n a0 z0_0 = some o at h
   unfold F86_beadrollref19_May_s0 at h
   show AW _ _ _ ⟨[(1, .ptr 1 0 []), (3, .d (.val (.int .i64 z0_0)))], [(1, .av (.d (eGLine a0)))], []⟩
   refine aw_seq ?_
   refine aw_rs ?_
   refine .mv rfl (by rfl) ?_
   refine .v (f_fieldAddr (n := 32) (by rfl) fl26_1 (by decide)) rfl (.c rfl .nil) .nil ?_
   refine .v (f_load (n := 0) (o := 1) (off := (0 + 32)) (p := [1]) (c := .d (eGLine a0)) (z := .d (eL24 a0.Txs)) (by rfl) rfl ty24 (by rfl)) rfl (.c rfl .nil) (.cons rfl .nil) ?_
   refine .v (f_lenD (n := (a0.Txs).length) (by rfl) sl24 rfl (by simp)) rfl (.c rfl .nil) .nil ?_
   refine .v (f_binI (by rfl) rfl (by rfl)) rfl (.c rfl (.c rfl .nil)) .nil ?_
   refine .nil (aq_then ?_)
   refine aw_cond rfl (fun hc2 => ?_) (fun hc2 => ?_)
   · replace h := ite_t hc2 h
     refine aw_skip ?_
     refine aq_then ?_
     refine aw_seq ?_
     refine aw_block ?_
     refine aw_seq ?_
     obtain ⟨o16, ho18, h⟩ := bind_some h
     refine aw_join (.normal) ⟨[(1, .ptr 1 0 []), (3, .d (.val (.int .i64 z0_0))), (43, .d (.val (.bool o16)))], [(1, .av (.d (eGLine a0)))], []⟩ ?_ ?_
     · replace h := ho18
       refine aw_rd ?_
       refine .v (f_fieldAddr (n := 32) (by rfl) fl26_1 (by decide)) rfl (.c rfl .nil) .nil ?_
       refine .v (f_load (n := 0) (o := 1) (off := (0 + 32)) (p := [1]) (c := .d (eGLine a0)) (z := .d (eL24 a0.Txs)) (by rfl) rfl ty24 (by rfl)) rfl (.c rfl .nil) (.cons rfl .nil) ?_
       refine .v (f_move (by rfl)) rfl (.c rfl .nil) .nil ?_
       obtain ⟨x3, hx4, h⟩ := bind_some h
       obtain ⟨hx5, hx4⟩ := rd_some hx4
       refine .v (f_indexS (by rfl) sl24 hx5 (rd_map _ hx4)) rfl (.c rfl (.c rfl .nil)) .nil ?_
       refine .v (f_loadR (z := (eGTx x3)) (by rfl) ty36) rfl (.c rfl .nil) .nil ?_
       refine .v (f_fieldAddr (n := 0) (by rfl) fl26_0 (by decide)) rfl (.c rfl .nil) .nil ?_
       refine .v (f_load (n := 0) (o := 1) (off := (0 + 0)) (p := [0]) (c := .d (eGLine a0)) (z := .d (eA22 a0.From)) (by rfl) rfl ty23 (by rfl)) rfl (.c rfl .nil) (.cons rfl .nil) ?_
       obtain ⟨y6, hy7, h⟩ := bind_some h
       refine .v (f_callP hgl (by rfl) en87 rfl (by rfl) (by rfl) (by rfl) (F87_beadrollref19_Own_ok hy7)) rfl (.c rfl (.c rfl .nil)) .nil ?_
       refine .v (f_not (by rfl)) rfl (.c rfl .nil) .nil ?_
       refine .v (f_move (by rfl)) rfl (.c rfl .nil) .nil ?_
       rcases Bool.eq_false_or_eq_true (!y6) with hc8 | hc8
       · replace h := ite_t hc8 h
         refine .off rfl rfl rfl hc8 rfl (by rfl) ?_
         refine .off rfl rfl rfl hc8 rfl (by rfl) ?_
         refine .off rfl rfl rfl hc8 rfl (by rfl) ?_
         refine .offu rfl rfl rfl rfl (by rfl) ?_
         refine .offu rfl rfl rfl rfl (by rfl) ?_
         refine .offu rfl rfl rfl rfl (by rfl) ?_
         refine .offu rfl rfl rfl rfl (by rfl) ?_
         refine .offu rfl rfl rfl rfl (by rfl) ?_
         refine .offu rfl rfl rfl rfl (by rfl) ?_
         refine .offu rfl rfl rfl rfl (by rfl) ?_
         refine .offu rfl rfl rfl rfl (by rfl) ?_
         refine .offu rfl rfl rfl rfl (by rfl) ?_
         refine .offu rfl rfl rfl rfl (by rfl) ?_
         refine .offu rfl rfl rfl rfl (by rfl) ?_
         refine .offu rfl rfl rfl rfl (by rfl) ?_
         refine .offu rfl rfl rfl rfl (by rfl) ?_
         refine .offu rfl rfl rfl rfl (by rfl) ?_
         refine .off rfl rfl rfl hc8 rfl (by rfl) ?_
         refine .v (f_pick_true (by rfl) hc8) rfl (.c rfl (.c rfl .nil)) .nil ?_
         refine .nil (by kernel_rfl) ?_
         obtain rfl := Option.some.inj h
         refine aq_weak (s' := ⟨[(1, .ptr 1 0 []), (3, .d (.val (.int .i64 z0_0))), (43, .d (.val (.bool true)))], [(1, .av (.d (eGLine a0)))], []⟩) id hb0 (.keep rfl (.keep rfl (.keep rfl .nil))) (.keep rfl .nil) rfl (by rfl) ?_
         exact jq
       replace h := ite_f hc8 h
       refine .gv (f_move (by rfl)) rfl rfl rfl hc8 (.c rfl .nil) .nil ?_
       refine .gv (f_binI (by rfl) rfl (by rfl)) rfl rfl rfl hc8 (.c rfl (.c rfl .nil)) .nil ?_
       refine .gv (f_move (by rfl)) rfl rfl rfl hc8 (.c rfl .nil) .nil ?_
       rcases Bool.eq_false_or_eq_true (decide (z0_0 > (0 : Int))) with hc9 | hc9
       · replace h := ite_t hc9 h
         refine .gv (f_fieldAddr (n := 32) (by rfl) fl26_1 (by decide)) rfl rfl rfl hc9 (.c rfl .nil) .nil ?_
         refine .gv (f_load (n := 0) (o := 1) (off := (0 + 32)) (p := [1]) (c := .d (eGLine a0)) (z := .d (eL24 a0.Txs)) (by rfl) rfl ty24 (by rfl)) rfl rfl rfl hc9 (.c rfl .nil) (.cons rfl .nil) ?_
         refine .gv (f_move (by rfl)) rfl rfl rfl hc9 (.c rfl .nil) .nil ?_
         obtain ⟨x10, hx11, h⟩ := bind_some h
         obtain ⟨hx12, hx11⟩ := rd_some hx11
         refine .gv (f_indexS (by rfl) sl24 hx12 (rd_map _ hx11)) rfl rfl rfl hc9 (.c rfl (.c rfl .nil)) .nil ?_
         refine .gv (f_fieldAddrR (by rfl) fl36_2 (by decide) rfl) rfl rfl rfl hc9 (.c rfl .nil) .nil ?_
         refine .gv (f_loadR (z := (.val (.int .u64 x10.Nonce))) (by rfl) ty27) rfl rfl rfl hc9 (.c rfl .nil) .nil ?_
         refine .gv (f_fieldAddr (n := 32) (by rfl) fl26_1 (by decide)) rfl rfl rfl hc9 (.c rfl .nil) .nil ?_
         refine .gv (f_load (n := 0) (o := 1) (off := (0 + 32)) (p := [1]) (c := .d (eGLine a0)) (z := .d (eL24 a0.Txs)) (by rfl) rfl ty24 (by rfl)) rfl rfl rfl hc9 (.c rfl .nil) (.cons rfl .nil) ?_
         refine .gv (f_move (by rfl)) rfl rfl rfl hc9 (.c rfl .nil) .nil ?_
         refine .gv (f_binI (by rfl) rfl (by rfl)) rfl rfl rfl hc9 (.c rfl (.c rfl .nil)) .nil ?_
         obtain ⟨x13, hx14, h⟩ := bind_some h
         obtain ⟨hx15, hx14⟩ := rd_some hx14
         refine .gv (f_indexS (by rfl) sl24 hx15 (rd_map _ hx14)) rfl rfl rfl hc9 (.c rfl (.c rfl .nil)) .nil ?_
         refine .gv (f_fieldAddrR (by rfl) fl36_2 (by decide) rfl) rfl rfl rfl hc9 (.c rfl .nil) .nil ?_
         refine .gv (f_loadR (z := (.val (.int .u64 x13.Nonce))) (by rfl) ty27) rfl rfl rfl hc9 (.c rfl .nil) .nil ?_
         refine .gv (f_binI (by rfl) rfl (by rfl)) rfl rfl rfl hc9 (.c rfl (.c rfl .nil)) .nil ?_
         refine .gv (f_pick_true (by rfl) hc9) rfl rfl rfl hc8 (.c rfl (.c rfl .nil)) .nil ?_
         refine .v (f_pick_false (by rfl) hc8) rfl (.c rfl (.c rfl .nil)) .nil ?_
         refine .nil (by kernel_rfl) ?_
         obtain rfl := Option.some.inj h
         refine aq_weak (s' := ⟨[(1, .ptr 1 0 []), (3, .d (.val (.int .i64 z0_0))), (43, .d (.val (.bool (decide (x10.Nonce ≤ x13.Nonce)))))], [(1, .av (.d (eGLine a0)))], []⟩) id hb0 (.keep rfl (.keep rfl (.keep rfl .nil))) (.keep rfl .nil) rfl (by rfl) ?_
         exact jq
       replace h := ite_f hc9 h
       refine .off rfl rfl rfl hc9 rfl (by rfl) ?_
       refine .off rfl rfl rfl hc9 rfl (by rfl) ?_
       refine .off rfl rfl rfl hc9 rfl (by rfl) ?_
       refine .off rfl rfl rfl hc9 rfl (by rfl) ?_
       refine .off rfl rfl rfl hc9 rfl (by rfl) ?_
       refine .off rfl rfl rfl hc9 rfl (by rfl) ?_
       refine .off rfl rfl rfl hc9 rfl (by rfl) ?_
       refine .off rfl rfl rfl hc9 rfl (by rfl) ?_
       refine .off rfl rfl rfl hc9 rfl (by rfl) ?_
       refine .off rfl rfl rfl hc9 rfl (by rfl) ?_
       refine .off rfl rfl rfl hc9 rfl (by rfl) ?_
       refine .off rfl rfl rfl hc9 rfl (by rfl) ?_
       refine .off rfl rfl rfl hc9 rfl (by rfl) ?_
       refine .off rfl rfl rfl hc9 rfl (by rfl) ?_
       refine .gv (f_pick_false (by rfl) hc9) rfl rfl rfl hc8 (.c rfl (.c rfl .nil)) .nil ?_
       refine .v (f_pick_false (by rfl) hc8) rfl (.c rfl (.c rfl .nil)) .nil ?_
       refine .nil (by kernel_rfl) ?_
       obtain rfl := Option.some.inj h
       refine aq_weak (s' := ⟨[(1, .ptr 1 0 []), (3, .d (.val (.int .i64 z0_0))), (43, .d (.val (.bool false)))], [(1, .av (.d (eGLine a0)))], []⟩) id hb0 (.keep rfl (.keep rfl (.keep rfl .nil))) (.keep rfl .nil) rfl (by rfl) ?_
       exact jq
     refine aq_then ?_
     refine aw_cond rfl (fun hc17 => ?_) (fun hc17 => ?_)
     · replace h := ite_t hc17 h
       refine aw_rs ?_
       refine .as rfl (by rfl) ?_
       refine .nil (aq_then ?_)
       refine aw_ret ?_
       refine aq_block_ret ?_
       refine aq_then_ret ?_
       obtain rfl := Option.some.inj h
       refine aq_weak (s' := ⟨[(2, .d (.val (.bool false)))], [], []⟩) id hb0 (.keep rfl .nil) .nil rfl (by rfl) ?_
       exact jq
     replace h := ite_f hc17 h
     refine aw_skip ?_
     refine aq_block ?_
     refine aq_then ?_
     refine aw_r ?_
     refine .mv rfl (by rfl) ?_
     refine .v (f_binI (by rfl) rfl (by rfl)) rfl (.c rfl (.c rfl .nil)) .nil ?_
     refine .as rfl (by rfl) ?_
     refine .nil ?_
     obtain rfl := Option.some.inj h
     refine aq_weak (s' := ⟨[(1, .ptr 1 0 []), (3, .d (.val (.int .i64 (IntKind.i64.wrap (z0_0 + (1 : Int))))))], [(1, .av (.d (eGLine a0)))], []⟩) id hb0 (.keep rfl (.keep rfl .nil)) (.keep rfl .nil) rfl (by rfl) ?_
     exact jq
   replace h := ite_f hc2 h
   refine aw_exit ?_
   refine aq_then_exit ?_
   obtain rfl := Option.some.inj h
   refine aq_weak (s' := ⟨[], [], []⟩) id hb0 .nil .nil rfl (by rfl) ?_
   exact jq
 rcases o19 with j19 | j19
 · replace h := elim_l h
   refine aq_block_exit ?_
   refine aq_then ?_
   refine aw_rs ?_
   refine .as rfl (by rfl) ?_
   refine .nil (aq_then ?_)
   refine aw_ret ?_
   obtain rfl := Option.some.inj h
   exact aq_finp hb0 rfl (.tmp rfl (by rfl) .nil) (by rfl) rfl ⟨rfl, rfl⟩
 replace h := elim_r h
 refine aq_block_ret ?_
 refine aq_then_ret ?_
 obtain rfl := Option.some.inj h
 exact aq_finp hb0 rfl (.tmp rfl (by rfl) .nil) (by rfl) rfl ⟨rfl, rfl⟩

/- 97: beadroll/beadrollref20.May -/
def F97_beadrollref20_May_s0 (n : Nat) (a0 : GShard) (z0_0 : Int) : Option ((Int) ⊕ ((Unit) ⊕ (Unit))) :=
  (if (decide (z0_0 < ((a0.Lines).length : Int))) = true then ((rd a0.Lines z0_0).bind fun (x2 : GLine) => (((if (((x2.Txs).length : Int) == (0 : Int)) = true then some true else ((F86_beadrollref19_May n x2).bind fun (y6 : Bool) => (if (!y6) = true then some true else (if (decide (z0_0 > (0 : Int))) = true then ((rd a0.Lines (IntKind.i64.wrap (z0_0 - (1 : Int)))).bind fun (x10 : GLine) => ((F124_beadrollref04_Ahead n x10.From x2.From).bind fun (y13 : Bool) => some (!y13))) else some false))))).bind fun (o15 : Bool) => (if o15 = true then some (.inr (.inr ())) else some (.inl (IntKind.i64.wrap (z0_0 + (1 : Int))))))) else some (.inr (.inl ())))
def F97_beadrollref20_May (n : Nat) (a0 : GShard) : Option (Bool) :=
  ((loopF (fun (z : Int) => F97_beadrollref20_May_s0 n a0 z) n (0 : Int)).bind (Sum.elim (fun (j18 : Unit) => some true) (fun (j18 : Unit) => some false)))
theorem F97_beadrollref20_May_ok {n : Nat} {a0 : GShard} {r : Bool} (h : F97_beadrollref20_May n a0 = some r) :
    ACall Tryd.prog GS 97 [.d (eGShard a0)] [] (fun r' hp' => r' = .d (.val (.bool r)) ∧ hp' = []) := by
 refine acall_of_body mixed Tryd.func97 rfl (by rfl) ?_
 intro C hro hgl hb0
 unfold F97_beadrollref20_May at h
 refine aw_rs ?_
 refine .n (f_box 1 (by rfl) (by rfl)) rfl (.c rfl .nil) rfl ?_
 refine .as rfl (by rfl) ?_
 refine .nil (aq_then ?_)
 refine aw_seq ?_
 refine aw_rs ?_
 refine .as rfl (by rfl) ?_
 refine .nil (aq_then ?_)
 refine aw_block ?_
 refine aw_weak (s' := ⟨[(1, .ptr 1 0 []), (3, .d (.val (.int .i64 (0 : Int))))], [(1, .av (.d (eGShard a0)))], []⟩) id hb0 (.keep rfl (.keep rfl .nil)) (.keep rfl .nil) rfl (by rfl) ?_
 obtain ⟨o18, ho19, h⟩ := bind_some h
 refine aw_loopX (σ := Int) (fun z => ⟨[(1, .ptr 1 0 []), (3, .d (.val (.int .i64 z)))], [(1, .av (.d (eGShard a0)))], []⟩) (Sum.elim (fun _ => .exit 0) (fun _ => .ret)) (Sum.elim (fun j18 => ⟨[], [], []⟩) (fun j18 => ⟨[(2, .d (.val (.bool false)))], [], []⟩)) ho19 (by intro b; rcases b with _ | _ <;> rfl) ?_ ?_
 · clear h ho19
   intro z0_0 o h
   change F97_beadrollref20_May_s0 n a0 z0_0 = some o at h
   unfold F97_beadrollref20_May_s0 at h
   show AW _ _ _ ⟨[(1, .ptr 1 0 []), (3, .d (.val (.int .i64 z0_0)))], [(1, .av (.d (eGShard a0)))], []⟩
   refine aw_seq ?_
   refine aw_rs ?_
   refine .mv rfl (by rfl) ?_
   refine .v (f_fieldAddr (n := 0) (by rfl) fl74_0 (by decide)) rfl (.c rfl .nil) .nil ?_
   refine .v (f_load (n := 0) (o := 1) (off := (0 + 0)) (p := [0]) (c := .d (eGShard a0)) (z := .d (eL72 a0.Lines)) (by rfl) rfl ty72 (by rfl)) rfl (.c rfl .nil) (.cons rfl .nil) ?_
   refine .v (f_lenD (n := (a0.Lines).length) (by rfl) sl72 rfl (by simp)) rfl (.c rfl .nil) .nil ?_
   refine .v (f_binI (by rfl) rfl (by rfl)) rfl (.c rfl (.c rfl .nil)) .nil ?_
   refine .nil (aq_then ?_)
   refine aw_cond rfl (fun hc1 => ?_) (fun hc1 => ?_)
   · replace h := ite_t hc1 h
     refine aw_skip ?_
     refine aq_then ?_
     refine aw_seq ?_
     refine aw_block ?_
     refine aw_rs ?_
     refine .v (f_fieldAddr (n := 0) (by rfl) fl74_0 (by decide)) rfl (.c rfl .nil) .nil ?_
     refine .v (f_load (n := 0) (o := 1) (off := (0 + 0)) (p := [0]) (c := .d (eGShard a0)) (z := .d (eL72 a0.Lines)) (by rfl) rfl ty72 (by rfl)) rfl (.c rfl .nil) (.cons rfl .nil) ?_
     refine .mv rfl (by rfl) ?_
     obtain ⟨x2, hx3, h⟩ := bind_some h
     obtain ⟨hx4, hx3⟩ := rd_some hx3
     refine .v (f_indexS (by rfl) sl72 hx4 (rd_map _ hx3)) rfl (.c rfl (.c rfl .nil)) .nil ?_
     refine .v (f_loadR (z := (eGLine x2)) (by rfl) ty26) rfl (.c rfl .nil) .nil ?_
     refine .n (f_alloc 4 (by rfl) zrv26) rfl .nil rfl ?_
     refine .s (f_store (n := 0) (o := 4) (off := 0) (p := []) (c := .st [.d (eA22 (List.replicate 32 (0 : Int))), .d (.val (.slice none 0 0))]) (old := .st [.d (eA22 (List.replicate 32 (0 : Int))), .d (.val (.slice none 0 0))]) (z := .d (eGLine x2)) (c' := .d (eGLine x2)) rfl rfl (by rfl) ty26 (by rfl)) rfl (.c rfl (.c rfl .nil)) (.cons rfl .nil) ?_
     refine .nil (aq_then ?_)
     refine aw_seq ?_
     obtain ⟨o15, ho17, h⟩ := bind_some h
     refine aw_join (.normal) ⟨[(1, .ptr 1 0 []), (3, .d (.val (.int .i64 z0_0))), (42, .d (.val (.bool o15)))], [(1, .av (.d (eGShard a0)))], []⟩ ?_ ?_
     · replace h := ho17
       refine aw_rd ?_
       refine .v (f_fieldAddr (n := 32) (by rfl) fl26_1 (by decide)) rfl (.c rfl .nil) .nil ?_
       refine .v (f_load (n := 0) (o := 4) (off := (0 + 32)) (p := [1]) (c := .d (eGLine x2)) (z := .d (eL24 x2.Txs)) (by rfl) rfl ty24 (by rfl)) rfl (.c rfl .nil) (.cons rfl .nil) ?_
       refine .v (f_lenD (n := (x2.Txs).length) (by rfl) sl24 rfl (by simp)) rfl (.c rfl .nil) .nil ?_
       refine .v (f_binI (by rfl) rfl (by rfl)) rfl (.c rfl (.c rfl .nil)) .nil ?_
       refine .v (f_move (by rfl)) rfl (.c rfl .nil) .nil ?_
       rcases Bool.eq_false_or_eq_true (((x2.Txs).length : Int) == (0 : Int)) with hc5 | hc5
       · replace h := ite_t hc5 h
         refine .off rfl rfl rfl hc5 rfl (by rfl) ?_
         refine .off rfl rfl rfl hc5 rfl (by rfl) ?_
         refine .off rfl rfl rfl hc5 rfl (by rfl) ?_
         refine .v (f_pick_true (by rfl) hc5) rfl (.c rfl (.c rfl .nil)) .nil ?_
         refine .v (f_move (by rfl)) rfl (.c rfl .nil) .nil ?_
         refine .off rfl rfl rfl rfl rfl (by rfl) ?_
         refine .off rfl rfl rfl rfl rfl (by rfl) ?_
         refine .off rfl rfl rfl rfl rfl (by rfl) ?_
         refine .offu rfl rfl rfl rfl (by rfl) ?_
         refine .offu rfl rfl rfl rfl (by rfl) ?_
         refine .offu rfl rfl rfl rfl (by rfl) ?_
         refine .offu rfl rfl rfl rfl (by rfl) ?_
         refine .offu rfl rfl rfl rfl (by rfl) ?_
         refine .offu rfl rfl rfl rfl (by rfl) ?_
         refine .offu rfl rfl rfl rfl (by rfl) ?_
         refine .offu rfl rfl rfl rfl (by rfl) ?_
         refine .offu rfl rfl rfl rfl (by rfl) ?_
         refine .offu rfl rfl rfl rfl (by rfl) ?_
         refine .offu rfl rfl rfl rfl (by rfl) ?_
         refine .off rfl rfl rfl rfl rfl (by rfl) ?_
         refine .v (f_pick_true (by rfl) rfl) rfl (.c rfl (.c rfl .nil)) .nil ?_
         refine .nil (by kernel_rfl) ?_
         obtain rfl := Option.some.inj h
         refine aq_weak (s' := ⟨[(1, .ptr 1 0 []), (3, .d (.val (.int .i64 z0_0))), (42, .d (.val (.bool true)))], [(1, .av (.d (eGShard a0)))], []⟩) id hb0 (.keep rfl (.keep rfl (.keep rfl .nil))) (.keep rfl .nil) rfl (by rfl) ?_
         exact jq
       replace h := ite_f hc5 h
       refine .gv (f_load (n := 0) (o := 4) (off := 0) (p := []) (c := .d (eGLine x2)) (z := .d (eGLine x2)) (by rfl) rfl ty26 (by rfl)) rfl rfl rfl hc5 (.c rfl .nil) (.cons rfl .nil) ?_
       obtain ⟨y6, hy7, h⟩ := bind_some h
       refine .gv (f_callP hgl (by rfl) en86 rfl (by rfl) (by rfl) (by rfl) (F86_beadrollref19_May_ok hy7)) rfl rfl rfl hc5 (.c rfl .nil) .nil ?_
       refine .gv (f_not (by rfl)) rfl rfl rfl hc5 (.c rfl .nil) .nil ?_
       refine .v (f_pick_false (by rfl) hc5) rfl (.c rfl (.c rfl .nil)) .nil ?_
       refine .v (f_move (by rfl)) rfl (.c rfl .nil) .nil ?_
       rcases Bool.eq_false_or_eq_true (!y6) with hc8 | hc8
       · replace h := ite_t hc8 h
         refine .off rfl rfl rfl hc8 rfl (by rfl) ?_
         refine .off rfl rfl rfl hc8 rfl (by rfl) ?_
         refine .off rfl rfl rfl hc8 rfl (by rfl) ?_
         refine .offu rfl rfl rfl rfl (by rfl) ?_
         refine .offu rfl rfl rfl rfl (by rfl) ?_
         refine .offu rfl rfl rfl rfl (by rfl) ?_
         refine .offu rfl rfl rfl rfl (by rfl) ?_
         refine .offu rfl rfl rfl rfl (by rfl) ?_
         refine .offu rfl rfl rfl rfl (by rfl) ?_
         refine .offu rfl rfl rfl rfl (by rfl) ?_
         refine .offu rfl rfl rfl rfl (by rfl) ?_
         refine .offu rfl rfl rfl rfl (by rfl) ?_
         refine .offu rfl rfl rfl rfl (by rfl) ?_
         refine .offu rfl rfl rfl rfl (by rfl) ?_
         refine .off rfl rfl rfl hc8 rfl (by rfl) ?_
         refine .v (f_pick_true (by rfl) hc8) rfl (.c rfl (.c rfl .nil)) .nil ?_
         refine .nil (by kernel_rfl) ?_
         obtain rfl := Option.some.inj h
         refine aq_weak (s' := ⟨[(1, .ptr 1 0 []), (3, .d (.val (.int .i64 z0_0))), (42, .d (.val (.bool true)))], [(1, .av (.d (eGShard a0)))], []⟩) id hb0 (.keep rfl (.keep rfl (.keep rfl .nil))) (.keep rfl .nil) rfl (by rfl) ?_
         exact jq
       replace h := ite_f hc8 h
       refine .gv (f_move (by rfl)) rfl rfl rfl hc8 (.c rfl .nil) .nil ?_
       refine .gv (f_binI (by rfl) rfl (by rfl)) rfl rfl rfl hc8 (.c rfl (.c rfl .nil)) .nil ?_
       refine .gv (f_move (by rfl)) rfl rfl rfl hc8 (.c rfl .nil) .nil ?_
       rcases Bool.eq_false_or_eq_true (decide (z0_0 > (0 : Int))) with hc9 | hc9
       · replace h := ite_t hc9 h
         refine .gv (f_fieldAddr (n := 0) (by rfl) fl74_0 (by decide)) rfl rfl rfl hc9 (.c rfl .nil) .nil ?_
         refine .gv (f_load (n := 0) (o := 1) (off := (0 + 0)) (p := [0]) (c := .d (eGShard a0)) (z := .d (eL72 a0.Lines)) (by rfl) rfl ty72 (by rfl)) rfl rfl rfl hc9 (.c rfl .nil) (.cons rfl .nil) ?_
         refine .gv (f_move (by rfl)) rfl rfl rfl hc9 (.c rfl .nil) .nil ?_
         refine .gv (f_binI (by rfl) rfl (by rfl)) rfl rfl rfl hc9 (.c rfl (.c rfl .nil)) .nil ?_
         obtain ⟨x10, hx11, h⟩ := bind_some h
         obtain ⟨hx12, hx11⟩ := rd_some hx11
         refine .gv (f_indexS (by rfl) sl72 hx12 (rd_map _ hx11)) rfl rfl rfl hc9 (.c rfl (.c rfl .nil)) .nil ?_
         refine .gv (f_fieldAddrR (by rfl) fl26_0 (by decide) rfl) rfl rfl rfl hc9 (.c rfl .nil) .nil ?_
         refine .gv (f_loadR (z := (eA22 x10.From)) (by rfl) ty23) rfl rfl rfl hc9 (.c rfl .nil) .nil ?_
         refine .gv (f_fieldAddr (n := 0) (by rfl) fl26_0 (by decide)) rfl rfl rfl hc9 (.c rfl .nil) .nil ?_
         refine .gv (f_load (n := 0) (o := 4) (off := (0 + 0)) (p := [0]) (c := .d (eGLine x2)) (z := .d (eA22 x2.From)) (by rfl) rfl ty23 (by rfl)) rfl rfl rfl hc9 (.c rfl .nil) (.cons rfl .nil) ?_
         obtain ⟨y13, hy14, h⟩ := bind_some h
         refine .gv (f_callP hgl (by rfl) en124 rfl (by rfl) (by rfl) (by rfl) (F124_beadrollref04_Ahead_ok hy14)) rfl rfl rfl hc9 (.c rfl (.c rfl .nil)) .nil ?_
         refine .gv (f_not (by rfl)) rfl rfl rfl hc9 (.c rfl .nil) .nil ?_
         refine .gv (f_pick_true (by rfl) hc9) rfl rfl rfl hc8 (.c rfl (.c rfl .nil)) .nil ?_
         refine .v (f_pick_false (by rfl) hc8) rfl (.c rfl (.c rfl .nil)) .nil ?_
         refine .nil (by kernel_rfl) ?_
         obtain rfl := Option.some.inj h
         refine aq_weak (s' := ⟨[(1, .ptr 1 0 []), (3, .d (.val (.int .i64 z0_0))), (42, .d (.val (.bool (!y13))))], [(1, .av (.d (eGShard a0)))], []⟩) id hb0 (.keep rfl (.keep rfl (.keep rfl .nil))) (.keep rfl .nil) rfl (by rfl) ?_
         exact jq
       replace h := ite_f hc9 h
       refine .off rfl rfl rfl hc9 rfl (by rfl) ?_
       refine .off rfl rfl rfl hc9 rfl (by rfl) ?_
       refine .off rfl rfl rfl hc9 rfl (by rfl) ?_
       refine .off rfl rfl rfl hc9 rfl (by rfl) ?_
       refine .off rfl rfl rfl hc9 rfl (by rfl) ?_
       refine .off rfl rfl rfl hc9 rfl (by rfl) ?_
       refine .off rfl rfl rfl hc9 rfl (by rfl) ?_
       refine .off rfl rfl rfl hc9 rfl (by rfl) ?_
       refine .off rfl rfl rfl hc9 rfl (by rfl) ?_
       refine .off rfl rfl rfl hc9 rfl (by rfl) ?_
       refine .off rfl rfl rfl hc9 rfl (by rfl) ?_
       refine .gv (f_pick_false (by rfl) hc9) rfl rfl rfl hc8 (.c rfl (.c rfl .nil)) .nil ?_
       refine .v (f_pick_false (by rfl) hc8) rfl (.c rfl (.c rfl .nil)) .nil ?_
       refine .nil (by kernel_rfl) ?_
       obtain rfl := Option.some.inj h
       refine aq_weak (s' := ⟨[(1, .ptr 1 0 []), (3, .d (.val (.int .i64 z0_0))), (42, .d (.val (.bool false)))], [(1, .av (.d (eGShard a0)))], []⟩) id hb0 (.keep rfl (.keep rfl (.keep rfl .nil))) (.keep rfl .nil) rfl (by rfl) ?_
       exact jq
     refine aq_then ?_
     refine aw_cond rfl (fun hc16 => ?_) (fun hc16 => ?_)
     · replace h := ite_t hc16 h
       refine aw_rs ?_
       refine .as rfl (by rfl) ?_
       refine .nil (aq_then ?_)
       refine aw_ret ?_
       refine aq_block_ret ?_
       refine aq_then_ret ?_
       obtain rfl := Option.some.inj h
       refine aq_weak (s' := ⟨[(2, .d (.val (.bool false)))], [], []⟩) id hb0 (.keep rfl .nil) .nil rfl (by rfl) ?_
       exact jq
     replace h := ite_f hc16 h
     refine aw_skip ?_
     refine aq_block ?_
     refine aq_then ?_
     refine aw_r ?_
     refine .mv rfl (by rfl) ?_
     refine .v (f_binI (by rfl) rfl (by rfl)) rfl (.c rfl (.c rfl .nil)) .nil ?_
     refine .as rfl (by rfl) ?_
     refine .nil ?_
     obtain rfl := Option.some.inj h
     refine aq_weak (s' := ⟨[(1, .ptr 1 0 []), (3, .d (.val (.int .i64 (IntKind.i64.wrap (z0_0 + (1 : Int))))))], [(1, .av (.d (eGShard a0)))], []⟩) id hb0 (.keep rfl (.keep rfl .nil)) (.keep rfl .nil) rfl (by rfl) ?_
     exact jq
   replace h := ite_f hc1 h
   refine aw_exit ?_
   refine aq_then_exit ?_
   obtain rfl := Option.some.inj h
   refine aq_weak (s' := ⟨[], [], []⟩) id hb0 .nil .nil rfl (by rfl) ?_
   exact jq
 rcases o18 with j18 | j18
 · replace h := elim_l h
   refine aq_block_exit ?_
   refine aq_then ?_
   refine aw_rs ?_
   refine .as rfl (by rfl) ?_
   refine .nil (aq_then ?_)
   refine aw_ret ?_
   obtain rfl := Option.some.inj h
   exact aq_finp hb0 rfl (.tmp rfl (by rfl) .nil) (by rfl) rfl ⟨rfl, rfl⟩
 replace h := elim_r h
 refine aq_block_ret ?_
 refine aq_then_ret ?_
 obtain rfl := Option.some.inj h
 exact aq_finp hb0 rfl (.tmp rfl (by rfl) .nil) (by rfl) rfl ⟨rfl, rfl⟩

/- 92: slices.Equal[[]beadroll/api.Tx,beadroll/api.Tx] -/
def F92_api_Tx_s0 (a0 : (List GTx)) (a1 : (List GTx)) (z0_0 : Int) : Option ((Int) ⊕ ((Unit) ⊕ (Unit))) :=
  (if (decide (z0_0 < ((a0).length : Int))) = true then ((rd a0 z0_0).bind fun (x3 : GTx) => ((rd a1 z0_0).bind fun (x6 : GTx) => (if (!(decide (x3 = x6))) = true then some (.inr (.inr ())) else some (.inl (IntKind.i64.wrap (z0_0 + (1 : Int))))))) else some (.inr (.inl ())))
def F92_api_Tx (n : Nat) (a0 : (List GTx)) (a1 : (List GTx)) : Option (Bool) :=
  (if (((a0).length : Int) != ((a1).length : Int)) = true then some false else ((loopF (fun (z : Int) => F92_api_Tx_s0 a0 a1 z) n (0 : Int)).bind (Sum.elim (fun (j10 : Unit) => some true) (fun (j10 : Unit) => some false))))
theorem F92_api_Tx_ok {n : Nat} {a0 : (List GTx)} {a1 : (List GTx)} {r : Bool} (h : F92_api_Tx n a0 a1 = some r) :
    ACall Tryd.prog GS 92 [.d (eL24 a0), .d (eL24 a1)] [] (fun r' hp' => r' = .d (.val (.bool r)) ∧ hp' = []) := by
 refine acall_of_body mixed Tryd.func92 rfl (by rfl) ?_
 intro C hro hgl hb0
 unfold F92_api_Tx at h
 refine aw_rs ?_
 refine .as rfl (by rfl) ?_
 refine .nil (aq_then ?_)
 refine aw_seq ?_
 refine aw_rs ?_
 refine .mv rfl (by rfl) ?_
 refine .v (f_lenD (n := (a0).length) (by rfl) sl24 rfl (by simp)) rfl (.c rfl .nil) .nil ?_
 refine .mv rfl (by rfl) ?_
 refine .v (f_lenD (n := (a1).length) (by rfl) sl24 rfl (by simp)) rfl (.c rfl .nil) .nil ?_
 refine .v (f_binI (by rfl) rfl (by rfl)) rfl (.c rfl (.c rfl .nil)) .nil ?_
 refine .nil (aq_then ?_)
 refine aw_cond rfl (fun hc1 => ?_) (fun hc1 => ?_)
 · replace h := ite_t hc1 h
   refine aw_rs ?_
   refine .as rfl (by rfl) ?_
   refine .nil (aq_then ?_)
   refine aw_ret ?_
   refine aq_then_ret ?_
   obtain rfl := Option.some.inj h
   exact aq_finp hb0 rfl (.tmp rfl (by rfl) .nil) (by rfl) rfl ⟨rfl, rfl⟩
 replace h := ite_f hc1 h
 refine aw_skip ?_
 refine aq_then ?_
 refine aw_seq ?_
 refine aw_rs ?_
 refine .mv rfl (by rfl) ?_
 refine .v (f_lenD (n := (a0).length) (by rfl) sl24 rfl (by simp)) rfl (.c rfl .nil) .nil ?_
 refine .mv rfl (by rfl) ?_
 refine .nil (aq_then ?_)
 refine aw_block ?_
 refine aw_weak (s' := ⟨[(0, .d (eL24 a0)), (1, .d (eL24 a1)), (12, .d (.val (.int .i64 ((a0).length : Int)))), (13, .d (.val (.int .i64 (0 : Int))))], [], []⟩) id hb0 (.keep rfl (.keep rfl (.keep rfl (.keep rfl .nil)))) .nil rfl (by rfl) ?_
 obtain ⟨o10, ho11, h⟩ := bind_some h
 refine aw_loopX (σ := Int) (fun z => ⟨[(0, .d (eL24 a0)), (1, .d (eL24 a1)), (12, .d (.val (.int .i64 ((a0).length : Int)))), (13, .d (.val (.int .i64 z)))], [], []⟩) (Sum.elim (fun _ => .exit 0) (fun _ => .ret)) (Sum.elim (fun j10 => ⟨[], [], []⟩) (fun j10 => ⟨[(4, .d (.val (.bool false)))], [], []⟩)) ho11 (by intro b; rcases b with _ | _ <;> rfl) ?_ ?_
 · clear h ho11
   intro z0_0 o h
   change F92_api_Tx_s0 a0 a1 z0_0 = some o at h
   unfold F92_api_Tx_s0 at h
   show AW _ _ _ ⟨[(0, .d (eL24 a0)), (1, .d (eL24 a1)), (12, .d (.val (.int .i64 ((a0).length : Int)))), (13, .d (.val (.int .i64 z0_0)))], [], []⟩
   refine aw_rs ?_
   refine .v (f_binI (by rfl) rfl (by rfl)) rfl (.c rfl (.c rfl .nil)) .nil ?_
   refine .nil (aq_then ?_)
   refine aw_seq ?_
   refine aw_cond rfl (fun hc2 => ?_) (fun hc2 => ?_)
   · replace h := ite_t hc2 h
     refine aw_skip ?_
     refine aq_then ?_
     refine aw_seq ?_
     refine aw_block ?_
     refine aw_rs ?_
     refine .mv rfl (by rfl) ?_
     refine .as rfl (by rfl) ?_
     refine .nil (aq_then ?_)
     refine aw_rds ?_
     refine .v (f_move (by rfl)) rfl (.c rfl .nil) .nil ?_
     refine .v (f_move (by rfl)) rfl (.c rfl .nil) .nil ?_
     obtain ⟨x3, hx4, h⟩ := bind_some h
     obtain ⟨hx5, hx4⟩ := rd_some hx4
     refine .v (f_indexS (by rfl) sl24 hx5 (rd_map _ hx4)) rfl (.c rfl (.c rfl .nil)) .nil ?_
     refine .v (f_loadR (z := (eGTx x3)) (by rfl) ty36) rfl (.c rfl .nil) .nil ?_
     refine .v (f_move (by rfl)) rfl (.c rfl .nil) .nil ?_
     refine .v (f_move (by rfl)) rfl (.c rfl .nil) .nil ?_
     obtain ⟨x6, hx7, h⟩ := bind_some h
     obtain ⟨hx8, hx7⟩ := rd_some hx7
     refine .v (f_indexS (by rfl) sl24 hx8 (rd_map _ hx7)) rfl (.c rfl (.c rfl .nil)) .nil ?_
     refine .v (f_loadR (z := (eGTx x6)) (by rfl) ty36) rfl (.c rfl .nil) .nil ?_
     refine .v (f_neqT (by rfl) (fit36 _) (fit36 _) (by rfl) (by rfl) gd36 (eq_eGTx _ _)) rfl (.c rfl (.c rfl .nil)) .nil ?_
     refine .nil (by kernel_rfl) ?_
     refine aw_cond rfl (fun hc9 => ?_) (fun hc9 => ?_)
     · replace h := ite_t hc9 h
       refine aw_rs ?_
       refine .as rfl (by rfl) ?_
       refine .nil (aq_then ?_)
       refine aw_ret ?_
       refine aq_block_ret ?_
       refine aq_then_ret ?_
       obtain rfl := Option.some.inj h
       refine aq_weak (s' := ⟨[(4, .d (.val (.bool false)))], [], []⟩) id hb0 (.keep rfl .nil) .nil rfl (by rfl) ?_
       exact jq
     replace h := ite_f hc9 h
     refine aw_skip ?_
     refine aq_block ?_
     refine aq_then ?_
     refine aw_r ?_
     refine .v (f_binI (by rfl) rfl (by rfl)) rfl (.c rfl (.c rfl .nil)) .nil ?_
     refine .mv rfl (by rfl) ?_
     refine .nil ?_
     obtain rfl := Option.some.inj h
     refine aq_weak (s' := ⟨[(0, .d (eL24 a0)), (1, .d (eL24 a1)), (12, .d (.val (.int .i64 ((a0).length : Int)))), (13, .d (.val (.int .i64 (IntKind.i64.wrap (z0_0 + (1 : Int))))))], [], []⟩) id hb0 (.keep rfl (.keep rfl (.keep rfl (.keep rfl .nil)))) .nil rfl (by rfl) ?_
     exact jq
   replace h := ite_f hc2 h
   refine aw_exit ?_
   refine aq_then_exit ?_
   obtain rfl := Option.some.inj h
   refine aq_weak (s' := ⟨[], [], []⟩) id hb0 .nil .nil rfl (by rfl) ?_
   exact jq
 rcases o10 with j10 | j10
 · replace h := elim_l h
   refine aq_block_exit ?_
   refine aq_then ?_
   refine aw_rs ?_
   refine .as rfl (by rfl) ?_
   refine .nil (aq_then ?_)
   refine aw_ret ?_
   obtain rfl := Option.some.inj h
   exact aq_finp hb0 rfl (.tmp rfl (by rfl) .nil) (by rfl) rfl ⟨rfl, rfl⟩
 replace h := elim_r h
 refine aq_block_ret ?_
 refine aq_then_ret ?_
 obtain rfl := Option.some.inj h
 exact aq_finp hb0 rfl (.tmp rfl (by rfl) .nil) (by rfl) rfl ⟨rfl, rfl⟩

/- 85: beadroll/tx.sign -/
def F85_tx_sign (n : Nat) (a0 : GTx) : Option ((List Int)) :=
  ((F116_tx_Body n a0).bind fun (y1 : (List Int)) => ((F115_tag_Of n (4 : Int) ([y1] : List (List Int))).bind fun (y3 : (List Int)) => some y3))
theorem F85_tx_sign_ok {n : Nat} {a0 : GTx} {r : (List Int)} (h : F85_tx_sign n a0 = some r) :
    ACall Tryd.prog GS 85 [.d (eGTx a0)] [] (fun r' hp' => r' = .d (eA22 r) ∧ hp' = []) := by
 refine acall_of_body mixed Tryd.func85 rfl (by rfl) ?_
 intro C hro hgl hb0
 unfold F85_tx_sign at h
 refine aw_rs ?_
 refine .n (f_box 1 (by rfl) (by rfl)) rfl (.c rfl .nil) rfl ?_
 refine .n (f_alloc 2 (by rfl) zr23) rfl .nil rfl ?_
 refine .nil (aq_then ?_)
 refine aw_rs ?_
 refine .v (f_load (n := 0) (o := 1) (off := 0) (p := []) (c := .d (eGTx a0)) (z := .d (eGTx a0)) (by rfl) rfl ty36 (by rfl)) rfl (.c rfl .nil) (.cons rfl .nil) ?_
 obtain ⟨y1, hy2, h⟩ := bind_some h
 refine .v (f_callP hgl (by rfl) en116 rfl (by rfl) (by rfl) (by rfl) (F116_tx_Body_ok hy2)) rfl (.c rfl .nil) .nil ?_
 refine .n (f_buildS (xs := [(0, .d (eL139 y1))]) (z := (.val (.slice none 0 0))) (zs := (([y1] : List (List Int))).map eL139) 1062 (by rfl) el180 zel180 (by rfl) (by decide) (by decide) rfl (by rfl) ⟨_, _, _, rfl, pl180_0, rfl, rfl, trivial⟩ (by rfl)) rfl (.c rfl .nil) rfl ?_
 obtain ⟨y3, hy4, h⟩ := bind_some h
 refine .w (f_callH0 (xs := [.d (.val (.int .u8 (4 : Int))), .slc 1062 0 ((([y1] : List (List Int))).length) 1]) (r := .d (eA22 y3)) (hr := []) (fun i => i) [(1062, (.arr 1 ((([y1] : List (List Int))).length) ((([y1] : List (List Int))).map eL139)))] hgl (by rfl) (cal_f en115) rfl (by rfl) (by rfl) (by rfl) (by rfl) (by rfl) (.cons (.same _) (.cons (.whole (.head _)) .nil)) rfl rfl (fl_eA22 _) trivial (F115_tag_Of_ok hy4)) rfl (.c rfl (.c rfl .nil)) (.cons rfl .nil) .nil ?_
 refine .s (f_store (n := 0) (o := 2) (off := 0) (p := []) (c := .d (eA22 (List.replicate 32 (0 : Int)))) (old := .d (eA22 (List.replicate 32 (0 : Int)))) (z := .d (eA22 y3)) (c' := .d (eA22 y3)) rfl rfl (by rfl) ty23 (by rfl)) rfl (.c rfl (.c rfl .nil)) (.cons rfl .nil) ?_
 refine .nil (aq_then ?_)
 refine aw_ret ?_
 obtain rfl := Option.some.inj h
 exact aq_finp hb0 rfl (.cell rfl rfl ty23 (by rfl) .nil) (by rfl) rfl ⟨rfl, rfl⟩

/- 84: beadroll/acct.Key -/
def F84_acct_Key (n : Nat) (a0 : (List Int)) : Option ((List Int)) :=
  ((F115_tag_Of n (3 : Int) ([a0] : List (List Int))).bind fun (y1 : (List Int)) => some y1)
theorem F84_acct_Key_ok {n : Nat} {a0 : (List Int)} {r : (List Int)} (h : F84_acct_Key n a0 = some r) :
    ACall Tryd.prog GS 84 [.d (eA22 a0)] [] (fun r' hp' => r' = .d (eA22 r) ∧ hp' = []) := by
 refine acall_of_body mixed Tryd.func84 rfl (by rfl) ?_
 intro C hro hgl hb0
 unfold F84_acct_Key at h
 refine aw_rs ?_
 refine .n (f_box 1 (by rfl) (by rfl)) rfl (.c rfl .nil) rfl ?_
 refine .n (f_alloc 2 (by rfl) zr23) rfl .nil rfl ?_
 refine .nil (aq_then ?_)
 refine aw_rs ?_
 refine .v (f_sliceA (by rfl) ar23) rfl (.c rfl .nil) (.cons rfl .nil) ?_
 refine R.freeze [(1, (eA22 a0))] [(2, .ptr 2 0 []), (3, .d (eL139 a0))] (.cons rfl .nil) (.keep rfl (.cons rfl (.whole (.head _)) .nil)) ?_
 refine .n (f_buildS (xs := [(0, .d (eL139 a0))]) (z := (.val (.slice none 0 0))) (zs := (([a0] : List (List Int))).map eL139) 1063 (by rfl) el180 zel180 (by rfl) (by decide) (by decide) rfl (by rfl) ⟨_, _, _, rfl, pl180_0, rfl, rfl, trivial⟩ (by rfl)) rfl (.c rfl .nil) rfl ?_
 obtain ⟨y1, hy2, h⟩ := bind_some h
 refine .w (f_callH0 (xs := [.d (.val (.int .u8 (3 : Int))), .slc 1063 0 ((([a0] : List (List Int))).length) 1]) (r := .d (eA22 y1)) (hr := []) (fun i => i) [(1063, (.arr 1 ((([a0] : List (List Int))).length) ((([a0] : List (List Int))).map eL139)))] hgl (by rfl) (cal_f en115) rfl (by rfl) (by rfl) (by rfl) (by rfl) (by rfl) (.cons (.same _) (.cons (.whole (.head _)) .nil)) rfl rfl (fl_eA22 _) trivial (F115_tag_Of_ok hy2)) rfl (.c rfl (.c rfl .nil)) (.cons rfl .nil) .nil ?_
 refine .s (f_store (n := 0) (o := 2) (off := 0) (p := []) (c := .d (eA22 (List.replicate 32 (0 : Int)))) (old := .d (eA22 (List.replicate 32 (0 : Int)))) (z := .d (eA22 y1)) (c' := .d (eA22 y1)) rfl rfl (by rfl) ty23 (by rfl)) rfl (.c rfl (.c rfl .nil)) (.cons rfl .nil) ?_
 refine .nil (aq_then ?_)
 refine aw_ret ?_
 obtain rfl := Option.some.inj h
 exact aq_finp hb0 rfl (.cell rfl rfl ty23 (by rfl) .nil) (by rfl) rfl ⟨rfl, rfl⟩

/- 78: beadroll/beadrollref21.Of -/
def F78_beadrollref21_Of (n : Nat) (a0 : (List Int)) (a1 : Int) : Option (Int) :=
  ((rd a0 (31 : Int)).bind fun (x1 : Int) => (if a1 = 0 then none else some (Int.tmod (IntKind.i64.wrap x1) a1)))
theorem F78_beadrollref21_Of_ok {n : Nat} {a0 : (List Int)} {a1 : Int} {r : Int} (h : F78_beadrollref21_Of n a0 a1 = some r) :
    ACall Tryd.prog GS 78 [.d (eA22 a0), .d (.val (.int .i64 a1))] [] (fun r' hp' => r' = .d (.val (.int .i64 r)) ∧ hp' = []) := by
 refine acall_of_body mixed Tryd.func78 rfl (by rfl) ?_
 intro C hro hgl hb0
 unfold F78_beadrollref21_Of at h
 refine aw_rs ?_
 refine .n (f_box 2 (by rfl) (by rfl)) rfl (.c rfl .nil) rfl ?_
 refine .as rfl (by rfl) ?_
 refine .nil (aq_then ?_)
 refine aw_rs ?_
 obtain ⟨x1, hx2, h⟩ := bind_some h
 obtain ⟨hx3, hx2⟩ := rd_some hx2
 refine .v (f_indexO (by rfl) ar23 rfl hx3 (rd_map _ hx2)) rfl (.c rfl (.c rfl .nil)) (.cons rfl .nil) ?_
 refine .v (f_load (n := 0) (o := 2) (off := (0 + ((31 : Int)).toNat * 1)) (p := [((31 : Int)).toNat]) (c := .d (eA22 a0)) (z := .d (.val (.int .u8 x1))) (by rfl) (at_map _ hx2 (by simp)) ty5 (by rfl)) rfl (.c rfl .nil) (.cons rfl .nil) ?_
 refine .v (f_convI (by rfl) un5 un3) rfl (.c rfl .nil) .nil ?_
 refine .mv rfl (by rfl) ?_
 obtain ⟨hz4, h⟩ := ifn h
 refine .v (f_binI (by rfl) (rem_ok hz4) (by rfl)) rfl (.c rfl (.c rfl .nil)) .nil ?_
 refine .as rfl (by rfl) ?_
 refine .nil (aq_then ?_)
 refine aw_ret ?_
 obtain rfl := Option.some.inj h
 exact aq_finp hb0 rfl (.tmp rfl (by rfl) .nil) (by rfl) rfl ⟨rfl, rfl⟩

/- 81: beadroll/beadrollref21.May -/
def F81_beadrollref21_May_s1 (n : Nat) (a0 : (List GShard)) (z0_0 : Int) (z1_0 : Int) : Option ((Int) ⊕ ((Unit) ⊕ (Unit))) :=
  ((rd a0 z0_0).bind fun (x11 : GShard) => (if (decide (z1_0 < ((x11.Lines).length : Int))) = true then ((rd a0 z0_0).bind fun (x15 : GShard) => ((rd x15.Lines z1_0).bind fun (x18 : GLine) => ((F78_beadrollref21_Of n x18.From ((a0).length : Int)).bind fun (y21 : Int) => (if (y21 != z0_0) = true then some (.inr (.inr ())) else some (.inl (IntKind.i64.wrap (z1_0 + (1 : Int)))))))) else some (.inr (.inl ()))))
def F81_beadrollref21_May_s0 (n : Nat) (a0 : (List GShard)) (z0_0 : Int) : Option ((Int) ⊕ ((Unit) ⊕ (Unit))) :=
  (if (decide (z0_0 < ((a0).length : Int))) = true then ((rd a0 z0_0).bind fun (x5 : GShard) => ((F97_beadrollref20_May n x5).bind fun (y8 : Bool) => (if (!y8) = true then some (.inr (.inr ())) else ((loopF (fun (z : Int) => F81_beadrollref21_May_s1 n a0 z0_0 z) n (0 : Int)).bind (Sum.elim (fun (j24 : Unit) => some (.inl (IntKind.i64.wrap (z0_0 + (1 : Int))))) (fun (j24 : Unit) => some (.inr (.inr ())))))))) else some (.inr (.inl ())))
def F81_beadrollref21_May (n : Nat) (a0 : (List GShard)) : Option (Bool) :=
  (((if (decide (((a0).length : Int) < (1 : Int))) = true then some true else some (decide (((a0).length : Int) > (8 : Int))))).bind fun (o2 : Bool) => (if o2 = true then some false else ((loopF (fun (z : Int) => F81_beadrollref21_May_s0 n a0 z) n (0 : Int)).bind (Sum.elim (fun (j26 : Unit) => some true) (fun (j26 : Unit) => some false)))))
theorem F81_beadrollref21_May_ok {n : Nat} {a0 : (List GShard)} {r : Bool} (h : F81_beadrollref21_May n a0 = some r) :
    ACall Tryd.prog GS 81 [.d (eL41 a0)] [] (fun r' hp' => r' = .d (.val (.bool r)) ∧ hp' = []) := by
 refine acall_of_body mixed Tryd.func81 rfl (by rfl) ?_
 intro C hro hgl hb0
 unfold F81_beadrollref21_May at h
 refine aw_rs ?_
 refine .as rfl (by rfl) ?_
 refine .nil (aq_then ?_)
 refine aw_seq ?_
 refine aw_seq ?_
 obtain ⟨o2, ho28, h⟩ := bind_some h
 refine aw_join (.normal) ⟨[(0, .d (eL41 a0)), (12, .d (.val (.bool o2)))], [], []⟩ ?_ ?_
 · replace h := ho28
   refine aw_r ?_
   refine .mv rfl (by rfl) ?_
   refine .v (f_lenD (n := (a0).length) (by rfl) sl41 rfl (by simp)) rfl (.c rfl .nil) .nil ?_
   refine .v (f_binI (by rfl) rfl (by rfl)) rfl (.c rfl (.c rfl .nil)) .nil ?_
   refine .mv rfl (by rfl) ?_
   rcases Bool.eq_false_or_eq_true (decide (((a0).length : Int) < (1 : Int))) with hc1 | hc1
   · replace h := ite_t hc1 h
     refine .off rfl rfl rfl hc1 rfl (by rfl) ?_
     refine .off rfl rfl rfl hc1 rfl (by rfl) ?_
     refine .off rfl rfl rfl hc1 rfl (by rfl) ?_
     refine .v (f_pick_true (by rfl) hc1) rfl (.c rfl (.c rfl .nil)) .nil ?_
     refine .nil ?_
     obtain rfl := Option.some.inj h
     refine aq_weak (s' := ⟨[(0, .d (eL41 a0)), (12, .d (.val (.bool true)))], [], []⟩) id hb0 (.keep rfl (.keep rfl .nil)) .nil rfl (by rfl) ?_
     exact jq
   replace h := ite_f hc1 h
   refine .gv (f_move (by rfl)) rfl rfl rfl hc1 (.c rfl .nil) .nil ?_
   refine .gv (f_lenD (n := (a0).length) (by rfl) sl41 rfl (by simp)) rfl rfl rfl hc1 (.c rfl .nil) .nil ?_
   refine .gv (f_binI (by rfl) rfl (by rfl)) rfl rfl rfl hc1 (.c rfl (.c rfl .nil)) .nil ?_
   refine .v (f_pick_false (by rfl) hc1) rfl (.c rfl (.c rfl .nil)) .nil ?_
   refine .nil ?_
   obtain rfl := Option.some.inj h
   refine aq_weak (s' := ⟨[(0, .d (eL41 a0)), (12, .d (.val (.bool (decide (((a0).length : Int) > (8 : Int))))))], [], []⟩) id hb0 (.keep rfl (.keep rfl .nil)) .nil rfl (by rfl) ?_
   exact jq
 refine aq_then ?_
 refine aw_cond rfl (fun hc3 => ?_) (fun hc3 => ?_)
 · replace h := ite_t hc3 h
   refine aw_rs ?_
   refine .as rfl (by rfl) ?_
   refine .nil (aq_then ?_)
   refine aw_ret ?_
   refine aq_then_ret ?_
   obtain rfl := Option.some.inj h
   exact aq_finp hb0 rfl (.tmp rfl (by rfl) .nil) (by rfl) rfl ⟨rfl, rfl⟩
 replace h := ite_f hc3 h
 refine aw_skip ?_
 refine aq_then ?_
 refine aw_seq ?_
 refine aw_rs ?_
 refine .as rfl (by rfl) ?_
 refine .nil (aq_then ?_)
 refine aw_block ?_
 refine aw_weak (s' := ⟨[(0, .d (eL41 a0)), (3, .d (.val (.int .i64 (0 : Int))))], [], []⟩) id hb0 (.keep rfl (.keep rfl .nil)) .nil rfl (by rfl) ?_
 obtain ⟨o26, ho27, h⟩ := bind_some h
 refine aw_loopX (σ := Int) (fun z => ⟨[(0, .d (eL41 a0)), (3, .d (.val (.int .i64 z)))], [], []⟩) (Sum.elim (fun _ => .exit 0) (fun _ => .ret)) (Sum.elim (fun j26 => ⟨[], [], []⟩) (fun j26 => ⟨[(2, .d (.val (.bool false)))], [], []⟩)) ho27 (by intro b; rcases b with _ | _ <;> rfl) ?_ ?_
 · clear h ho27
   intro z0_0 o h
   change F81_beadrollref21_May_s0 n a0 z0_0 = some o at h
   unfold F81_beadrollref21_May_s0 at h
   show AW _ _ _ ⟨[(0, .d (eL41 a0)), (3, .d (.val (.int .i64 z0_0)))], [], []⟩
   refine aw_seq ?_
   refine aw_rs ?_
   refine .mv rfl (by rfl) ?_
   refine .mv rfl (by rfl) ?_
   refine .v (f_lenD (n := (a0).length) (by rfl) sl41 rfl (by simp)) rfl (.c rfl .nil) .nil ?_
   refine .v (f_binI (by rfl) rfl (by rfl)) rfl (.c rfl (.c rfl .nil)) .nil ?_
   refine .nil (aq_then ?_)
   refine aw_cond rfl (fun hc4 => ?_) (fun hc4 => ?_)
   · replace h := ite_t hc4 h
     refine aw_skip ?_
     refine aq_then ?_
     refine aw_seq ?_
     refine aw_block ?_
     refine aw_seq ?_
     refine aw_rs ?_
     refine .mv rfl (by rfl) ?_
     refine .mv rfl (by rfl) ?_
     obtain ⟨x5, hx6, h⟩ := bind_some h
     obtain ⟨hx7, hx6⟩ := rd_some hx6
     refine .v (f_indexS (by rfl) sl41 hx7 (rd_map _ hx6)) rfl (.c rfl (.c rfl .nil)) .nil ?_
     refine .v (f_loadR (z := (eGShard x5)) (by rfl) ty74) rfl (.c rfl .nil) .nil ?_
     obtain ⟨y8, hy9, h⟩ := bind_some h
     refine .v (f_callP hgl (by rfl) en97 rfl (by rfl) (by rfl) (by rfl) (F97_beadrollref20_May_ok hy9)) rfl (.c rfl .nil) .nil ?_
     refine .v (f_not (by rfl)) rfl (.c rfl .nil) .nil ?_
     refine .nil (aq_then ?_)
     refine aw_cond rfl (fun hc10 => ?_) (fun hc10 => ?_)
     · replace h := ite_t hc10 h
       refine aw_rs ?_
       refine .as rfl (by rfl) ?_
       refine .nil (aq_then ?_)
       refine aw_ret ?_
       refine aq_then_ret ?_
       refine aq_block_ret ?_
       refine aq_then_ret ?_
       obtain rfl := Option.some.inj h
       refine aq_weak (s' := ⟨[(2, .d (.val (.bool false)))], [], []⟩) id hb0 (.keep rfl .nil) .nil rfl (by rfl) ?_
       exact jq
     replace h := ite_f hc10 h
     refine aw_skip ?_
     refine aq_then ?_
     refine aw_rs ?_
     refine .as rfl (by rfl) ?_
     refine .nil (aq_then ?_)
     refine aw_block ?_
     refine aw_weak (s' := ⟨[(0, .d (eL41 a0)), (3, .d (.val (.int .i64 z0_0))), (4, .d (.val (.int .i64 (0 : Int))))], [], []⟩) id hb0 (.keep rfl (.keep rfl (.keep rfl .nil))) .nil rfl (by rfl) ?_
     obtain ⟨o24, ho25, h⟩ := bind_some h
     refine aw_loopX (σ := Int) (fun z => ⟨[(0, .d (eL41 a0)), (3, .d (.val (.int .i64 z0_0))), (4, .d (.val (.int .i64 z)))], [], []⟩) (Sum.elim (fun _ => .exit 2) (fun _ => .ret)) (Sum.elim (fun j24 => ⟨[(0, .d (eL41 a0)), (3, .d (.val (.int .i64 z0_0)))], [], []⟩) (fun j24 => ⟨[(2, .d (.val (.bool false)))], [], []⟩)) ho25 (by intro b; rcases b with _ | _ <;> rfl) ?_ ?_
     · clear h ho25
       intro z1_0 o h
       change F81_beadrollref21_May_s1 n a0 z0_0 z1_0 = some o at h
       unfold F81_beadrollref21_May_s1 at h
       show AW _ _ _ ⟨[(0, .d (eL41 a0)), (3, .d (.val (.int .i64 z0_0))), (4, .d (.val (.int .i64 z1_0)))], [], []⟩
       refine aw_seq ?_
       refine aw_rs ?_
       refine .mv rfl (by rfl) ?_
       refine .mv rfl (by rfl) ?_
       refine .mv rfl (by rfl) ?_
       obtain ⟨x11, hx12, h⟩ := bind_some h
       obtain ⟨hx13, hx12⟩ := rd_some hx12
       refine .v (f_indexS (by rfl) sl41 hx13 (rd_map _ hx12)) rfl (.c rfl (.c rfl .nil)) .nil ?_
       refine .v (f_fieldAddrR (by rfl) fl74_0 (by decide) rfl) rfl (.c rfl .nil) .nil ?_
       refine .v (f_loadR (z := (eL72 x11.Lines)) (by rfl) ty72) rfl (.c rfl .nil) .nil ?_
       refine .v (f_lenD (n := (x11.Lines).length) (by rfl) sl72 rfl (by simp)) rfl (.c rfl .nil) .nil ?_
       refine .v (f_binI (by rfl) rfl (by rfl)) rfl (.c rfl (.c rfl .nil)) .nil ?_
       refine .nil (aq_then ?_)
       refine aw_cond rfl (fun hc14 => ?_) (fun hc14 => ?_)
       · replace h := ite_t hc14 h
         refine aw_skip ?_
         refine aq_then ?_
         refine aw_seq ?_
         refine aw_block ?_
         refine aw_rs ?_
         refine .mv rfl (by rfl) ?_
         refine .mv rfl (by rfl) ?_
         obtain ⟨x15, hx16, h⟩ := bind_some h
         obtain ⟨hx17, hx16⟩ := rd_some hx16
         refine .v (f_indexS (by rfl) sl41 hx17 (rd_map _ hx16)) rfl (.c rfl (.c rfl .nil)) .nil ?_
         refine .v (f_fieldAddrR (by rfl) fl74_0 (by decide) rfl) rfl (.c rfl .nil) .nil ?_
         refine .v (f_loadR (z := (eL72 x15.Lines)) (by rfl) ty72) rfl (.c rfl .nil) .nil ?_
         refine .mv rfl (by rfl) ?_
         obtain ⟨x18, hx19, h⟩ := bind_some h
         obtain ⟨hx20, hx19⟩ := rd_some hx19
         refine .v (f_indexS (by rfl) sl72 hx20 (rd_map _ hx19)) rfl (.c rfl (.c rfl .nil)) .nil ?_
         refine .v (f_fieldAddrR (by rfl) fl26_0 (by decide) rfl) rfl (.c rfl .nil) .nil ?_
         refine .v (f_loadR (z := (eA22 x18.From)) (by rfl) ty23) rfl (.c rfl .nil) .nil ?_
         refine .mv rfl (by rfl) ?_
         refine .v (f_lenD (n := (a0).length) (by rfl) sl41 rfl (by simp)) rfl (.c rfl .nil) .nil ?_
         obtain ⟨y21, hy22, h⟩ := bind_some h
         refine .v (f_callP hgl (by rfl) en78 rfl (by rfl) (by rfl) (by rfl) (F78_beadrollref21_Of_ok hy22)) rfl (.c rfl (.c rfl .nil)) .nil ?_
         refine .mv rfl (by rfl) ?_
         refine .v (f_binI (by rfl) rfl (by rfl)) rfl (.c rfl (.c rfl .nil)) .nil ?_
         refine .nil (aq_then ?_)
         refine aw_cond rfl (fun hc23 => ?_) (fun hc23 => ?_)
         · replace h := ite_t hc23 h
           refine aw_rs ?_
           refine .as rfl (by rfl) ?_
           refine .nil (aq_then ?_)
           refine aw_ret ?_
           refine aq_block_ret ?_
           refine aq_then_ret ?_
           obtain rfl := Option.some.inj h
           refine aq_weak (s' := ⟨[(2, .d (.val (.bool false)))], [], []⟩) id hb0 (.keep rfl .nil) .nil rfl (by rfl) ?_
           exact jq
         replace h := ite_f hc23 h
         refine aw_skip ?_
         refine aq_block ?_
         refine aq_then ?_
         refine aw_r ?_
         refine .mv rfl (by rfl) ?_
         refine .v (f_binI (by rfl) rfl (by rfl)) rfl (.c rfl (.c rfl .nil)) .nil ?_
         refine .as rfl (by rfl) ?_
         refine .nil ?_
         obtain rfl := Option.some.inj h
         refine aq_weak (s' := ⟨[(0, .d (eL41 a0)), (3, .d (.val (.int .i64 z0_0))), (4, .d (.val (.int .i64 (IntKind.i64.wrap (z1_0 + (1 : Int))))))], [], []⟩) id hb0 (.keep rfl (.keep rfl (.keep rfl .nil))) .nil rfl (by rfl) ?_
         exact jq
       replace h := ite_f hc14 h
       refine aw_exit ?_
       refine aq_then_exit ?_
       obtain rfl := Option.some.inj h
       refine aq_weak (s' := ⟨[(0, .d (eL41 a0)), (3, .d (.val (.int .i64 z0_0)))], [], []⟩) id hb0 (.keep rfl (.keep rfl .nil)) .nil rfl (by rfl) ?_
       exact jq
     rcases o24 with j24 | j24
     · replace h := elim_l h
       refine aq_block_exit ?_
       refine aq_block ?_
       refine aq_then ?_
       refine aw_r ?_
       refine .mv rfl (by rfl) ?_
       refine .v (f_binI (by rfl) rfl (by rfl)) rfl (.c rfl (.c rfl .nil)) .nil ?_
       refine .as rfl (by rfl) ?_
       refine .nil ?_
       obtain rfl := Option.some.inj h
       refine aq_weak (s' := ⟨[(0, .d (eL41 a0)), (3, .d (.val (.int .i64 (IntKind.i64.wrap (z0_0 + (1 : Int))))))], [], []⟩) id hb0 (.keep rfl (.keep rfl .nil)) .nil rfl (by rfl) ?_
       exact jq
     replace h := elim_r h
     refine aq_block_ret ?_
     refine aq_block_ret ?_
     refine aq_then_ret ?_
     obtain rfl := Option.some.inj h
     refine aq_weak (s' := ⟨[(2, .d (.val (.bool false)))], [], []⟩) id hb0 (.keep rfl .nil) .nil rfl (by rfl) ?_
     exact jq
   replace h := ite_f hc4 h
   refine aw_exit ?_
   refine aq_then_exit ?_
   obtain rfl := Option.some.inj h
   refine aq_weak (s' := ⟨[], [], []⟩) id hb0 .nil .nil rfl (by rfl) ?_
   exact jq
 rcases o26 with j26 | j26
 · replace h := elim_l h
   refine aq_block_exit ?_
   refine aq_then ?_
   refine aw_rs ?_
   refine .as rfl (by rfl) ?_
   refine .nil (aq_then ?_)
   refine aw_ret ?_
   obtain rfl := Option.some.inj h
   exact aq_finp hb0 rfl (.tmp rfl (by rfl) .nil) (by rfl) rfl ⟨rfl, rfl⟩
 replace h := elim_r h
 refine aq_block_ret ?_
 refine aq_then_ret ?_
 obtain rfl := Option.some.inj h
 exact aq_finp hb0 rfl (.tmp rfl (by rfl) .nil) (by rfl) rfl ⟨rfl, rfl⟩

/- 38: beadroll/tx.Check -/
def F38_tx_Check (n : Nat) (a0 : GTx) : Option (Int) :=
  ((F85_tx_sign n a0).bind fun (y1 : (List Int)) => (if (!(decide (a0.Sign = y1))) = true then some (110 : Int) else some (0 : Int)))
theorem F38_tx_Check_ok {n : Nat} {a0 : GTx} {r : Int} (h : F38_tx_Check n a0 = some r) :
    ACall Tryd.prog GS 38 [.d (eGTx a0)] [] (fun r' hp' => r' = .d (.val (.int .i64 r)) ∧ hp' = []) := by
 refine acall_of_body mixed Tryd.func38 rfl (by rfl) ?_
 intro C hro hgl hb0
 unfold F38_tx_Check at h
 refine aw_rs ?_
 refine .n (f_box 1 (by rfl) (by rfl)) rfl (.c rfl .nil) rfl ?_
 refine .as rfl (by rfl) ?_
 refine .nil (aq_then ?_)
 refine aw_seq ?_
 refine aw_rds ?_
 refine .v (f_fieldAddr (n := 67) (by rfl) fl36_5 (by decide)) rfl (.c rfl .nil) .nil ?_
 refine .v (f_load (n := 0) (o := 1) (off := (0 + 67)) (p := [5]) (c := .d (eGTx a0)) (z := .d (eA22 a0.Sign)) (by rfl) rfl ty23 (by rfl)) rfl (.c rfl .nil) (.cons rfl .nil) ?_
 refine .v (f_load (n := 0) (o := 1) (off := 0) (p := []) (c := .d (eGTx a0)) (z := .d (eGTx a0)) (by rfl) rfl ty36 (by rfl)) rfl (.c rfl .nil) (.cons rfl .nil) ?_
 obtain ⟨y1, hy2, h⟩ := bind_some h
 refine .v (f_callP hgl (by rfl) en85 rfl (by rfl) (by rfl) (by rfl) (F85_tx_sign_ok hy2)) rfl (.c rfl .nil) .nil ?_
 refine .v (f_neqT (by rfl) (fit23 _) (fit23 _) (by rfl) (by rfl) gd23 (eq_eA22 _ _)) rfl (.c rfl (.c rfl .nil)) .nil ?_
 refine .nil (by kernel_rfl) ?_
 refine aw_cond rfl (fun hc3 => ?_) (fun hc3 => ?_)
 · replace h := ite_t hc3 h
   refine aw_rs ?_
   refine .as rfl (by rfl) ?_
   refine .nil (aq_then ?_)
   refine aw_ret ?_
   refine aq_then_ret ?_
   obtain rfl := Option.some.inj h
   exact aq_finp hb0 rfl (.tmp rfl (by rfl) .nil) (by rfl) rfl ⟨rfl, rfl⟩
 replace h := ite_f hc3 h
 refine aw_skip ?_
 refine aq_then ?_
 refine aw_rs ?_
 refine .as rfl (by rfl) ?_
 refine .nil (aq_then ?_)
 refine aw_ret ?_
 obtain rfl := Option.some.inj h
 exact aq_finp hb0 rfl (.tmp rfl (by rfl) .nil) (by rfl) rfl ⟨rfl, rfl⟩

/- 39: beadroll/tx.From -/
def F39_tx_From (n : Nat) (a0 : GTx) : Option ((List Int)) :=
  ((F84_acct_Key n a0.Pub).bind fun (y1 : (List Int)) => some y1)
theorem F39_tx_From_ok {n : Nat} {a0 : GTx} {r : (List Int)} (h : F39_tx_From n a0 = some r) :
    ACall Tryd.prog GS 39 [.d (eGTx a0)] [] (fun r' hp' => r' = .d (eA22 r) ∧ hp' = []) := by
 refine acall_of_body mixed Tryd.func39 rfl (by rfl) ?_
 intro C hro hgl hb0
 unfold F39_tx_From at h
 refine aw_rs ?_
 refine .n (f_box 1 (by rfl) (by rfl)) rfl (.c rfl .nil) rfl ?_
 refine .n (f_alloc 2 (by rfl) zr23) rfl .nil rfl ?_
 refine .nil (aq_then ?_)
 refine aw_rs ?_
 refine .v (f_fieldAddr (n := 0) (by rfl) fl36_0 (by decide)) rfl (.c rfl .nil) .nil ?_
 refine .v (f_load (n := 0) (o := 1) (off := (0 + 0)) (p := [0]) (c := .d (eGTx a0)) (z := .d (eA22 a0.Pub)) (by rfl) rfl ty23 (by rfl)) rfl (.c rfl .nil) (.cons rfl .nil) ?_
 obtain ⟨y1, hy2, h⟩ := bind_some h
 refine .v (f_callP hgl (by rfl) en84 rfl (by rfl) (by rfl) (by rfl) (F84_acct_Key_ok hy2)) rfl (.c rfl .nil) .nil ?_
 refine .s (f_store (n := 0) (o := 2) (off := 0) (p := []) (c := .d (eA22 (List.replicate 32 (0 : Int)))) (old := .d (eA22 (List.replicate 32 (0 : Int)))) (z := .d (eA22 y1)) (c' := .d (eA22 y1)) rfl rfl (by rfl) ty23 (by rfl)) rfl (.c rfl (.c rfl .nil)) (.cons rfl .nil) ?_
 refine .nil (aq_then ?_)
 refine aw_ret ?_
 obtain rfl := Option.some.inj h
 exact aq_finp hb0 rfl (.cell rfl rfl ty23 (by rfl) .nil) (by rfl) rfl ⟨rfl, rfl⟩

/- 77: beadroll/queue.own -/
def F77_queue_own (n : Nat) (a0 : GTx) (a1 : (List Int)) : Option (Bool) :=
  ((((F38_tx_Check n a0).bind fun (y1 : Int) => (if (y1 == (0 : Int)) = true then ((F39_tx_From n a0).bind fun (y4 : (List Int)) => some (decide (y4 = a1))) else some false))).bind fun (o6 : Bool) => some o6)
theorem F77_queue_own_ok {n : Nat} {a0 : GTx} {a1 : (List Int)} {r : Bool} (h : F77_queue_own n a0 a1 = some r) :
    ACall Tryd.prog GS 77 [.d (eGTx a0), .d (eA22 a1)] [] (fun r' hp' => r' = .d (.val (.bool r)) ∧ hp' = []) := by
 refine acall_of_body mixed Tryd.func77 rfl (by rfl) ?_
 intro C hro hgl hb0
 unfold F77_queue_own at h
 refine aw_rs ?_
 refine .n (f_box 2 (by rfl) (by rfl)) rfl (.c rfl .nil) rfl ?_
 refine .n (f_box 3 (by rfl) (by rfl)) rfl (.c rfl .nil) rfl ?_
 refine .as rfl (by rfl) ?_
 refine .nil (aq_then ?_)
 refine aw_seq ?_
 obtain ⟨o6, ho7, h⟩ := bind_some h
 refine aw_join (.normal) ⟨[(4, .d (.val (.bool o6)))], [], []⟩ ?_ ?_
 · replace h := ho7
   refine aw_rd ?_
   refine .v (f_load (n := 0) (o := 2) (off := 0) (p := []) (c := .d (eGTx a0)) (z := .d (eGTx a0)) (by rfl) rfl ty36 (by rfl)) rfl (.c rfl .nil) (.cons rfl .nil) ?_
   obtain ⟨y1, hy2, h⟩ := bind_some h
   refine .v (f_callP hgl (by rfl) en38 rfl (by rfl) (by rfl) (by rfl) (F38_tx_Check_ok hy2)) rfl (.c rfl .nil) .nil ?_
   refine .v (f_binI (by rfl) rfl (by rfl)) rfl (.c rfl (.c rfl .nil)) .nil ?_
   refine .v (f_move (by rfl)) rfl (.c rfl .nil) .nil ?_
   rcases Bool.eq_false_or_eq_true (y1 == (0 : Int)) with hc3 | hc3
   · replace h := ite_t hc3 h
     refine .gv (f_load (n := 0) (o := 2) (off := 0) (p := []) (c := .d (eGTx a0)) (z := .d (eGTx a0)) (by rfl) rfl ty36 (by rfl)) rfl rfl rfl hc3 (.c rfl .nil) (.cons rfl .nil) ?_
     obtain ⟨y4, hy5, h⟩ := bind_some h
     refine .gv (f_callP hgl (by rfl) en39 rfl (by rfl) (by rfl) (by rfl) (F39_tx_From_ok hy5)) rfl rfl rfl hc3 (.c rfl .nil) .nil ?_
     refine .gv (f_load (n := 0) (o := 3) (off := 0) (p := []) (c := .d (eA22 a1)) (z := .d (eA22 a1)) (by rfl) rfl ty23 (by rfl)) rfl rfl rfl hc3 (.c rfl .nil) (.cons rfl .nil) ?_
     refine .gv (f_eqlT (by rfl) (fit23 _) (fit23 _) (by rfl) (by rfl) gd23 (eq_eA22 _ _)) rfl rfl rfl hc3 (.c rfl (.c rfl .nil)) .nil ?_
     refine .v (f_pick_true (by rfl) hc3) rfl (.c rfl (.c rfl .nil)) .nil ?_
     refine .v (f_assign (by rfl)) rfl (.c rfl .nil) .nil ?_
     refine .nil (by kernel_rfl) ?_
     obtain rfl := Option.some.inj h
     refine aq_weak (s' := ⟨[(4, .d (.val (.bool (decide (y4 = a1)))))], [], []⟩) id hb0 (.keep rfl .nil) .nil rfl (by rfl) ?_
     exact jq
   replace h := ite_f hc3 h
   refine .off rfl rfl rfl hc3 rfl (by rfl) ?_
   refine .off rfl rfl rfl hc3 rfl (by rfl) ?_
   refine .off rfl rfl rfl hc3 rfl (by rfl) ?_
   refine .off rfl rfl rfl hc3 rfl (by rfl) ?_
   refine .v (f_pick_false (by rfl) hc3) rfl (.c rfl (.c rfl .nil)) .nil ?_
   refine .v (f_assign (by rfl)) rfl (.c rfl .nil) .nil ?_
   refine .nil (by kernel_rfl) ?_
   obtain rfl := Option.some.inj h
   refine aq_weak (s' := ⟨[(4, .d (.val (.bool false)))], [], []⟩) id hb0 (.keep rfl .nil) .nil rfl (by rfl) ?_
   exact jq
 refine aq_then ?_
 refine aw_ret ?_
 obtain rfl := Option.some.inj h
 exact aq_finp hb0 rfl (.tmp rfl (by rfl) .nil) (by rfl) rfl ⟨rfl, rfl⟩

/- 46: beadroll/queue.Same -/
def F46_queue_Same (n : Nat) (a0 : GLine) (a1 : GLine) : Option (Bool) :=
  (((if (decide (a0.From = a1.From)) = true then ((F92_api_Tx n a0.Txs a1.Txs).bind fun (y2 : Bool) => some y2) else some false)).bind fun (o4 : Bool) => some o4)
theorem F46_queue_Same_ok {n : Nat} {a0 : GLine} {a1 : GLine} {r : Bool} (h : F46_queue_Same n a0 a1 = some r) :
    ACall Tryd.prog GS 46 [.d (eGLine a0), .d (eGLine a1)] [] (fun r' hp' => r' = .d (.val (.bool r)) ∧ hp' = []) := by
 refine acall_of_body mixed Tryd.func46 rfl (by rfl) ?_
 intro C hro hgl hb0
 unfold F46_queue_Same at h
 refine aw_rs ?_
 refine .n (f_box 2 (by rfl) (by rfl)) rfl (.c rfl .nil) rfl ?_
 refine .n (f_box 3 (by rfl) (by rfl)) rfl (.c rfl .nil) rfl ?_
 refine .as rfl (by rfl) ?_
 refine .nil (aq_then ?_)
 refine aw_seq ?_
 obtain ⟨o4, ho5, h⟩ := bind_some h
 refine aw_join (.normal) ⟨[(4, .d (.val (.bool o4)))], [], []⟩ ?_ ?_
 · replace h := ho5
   refine aw_r ?_
   refine .v (f_fieldAddr (n := 0) (by rfl) fl26_0 (by decide)) rfl (.c rfl .nil) .nil ?_
   refine .v (f_load (n := 0) (o := 2) (off := (0 + 0)) (p := [0]) (c := .d (eGLine a0)) (z := .d (eA22 a0.From)) (by rfl) rfl ty23 (by rfl)) rfl (.c rfl .nil) (.cons rfl .nil) ?_
   refine .v (f_fieldAddr (n := 0) (by rfl) fl26_0 (by decide)) rfl (.c rfl .nil) .nil ?_
   refine .v (f_load (n := 0) (o := 3) (off := (0 + 0)) (p := [0]) (c := .d (eGLine a1)) (z := .d (eA22 a1.From)) (by rfl) rfl ty23 (by rfl)) rfl (.c rfl .nil) (.cons rfl .nil) ?_
   refine .v (f_eqlT (by rfl) (fit23 _) (fit23 _) (by rfl) (by rfl) gd23 (eq_eA22 _ _)) rfl (.c rfl (.c rfl .nil)) .nil ?_
   refine .mv rfl (by rfl) ?_
   rcases Bool.eq_false_or_eq_true (decide (a0.From = a1.From)) with hc1 | hc1
   · replace h := ite_t hc1 h
     refine .gv (f_fieldAddr (n := 32) (by rfl) fl26_1 (by decide)) rfl rfl rfl hc1 (.c rfl .nil) .nil ?_
     refine .gv (f_load (n := 0) (o := 2) (off := (0 + 32)) (p := [1]) (c := .d (eGLine a0)) (z := .d (eL24 a0.Txs)) (by rfl) rfl ty24 (by rfl)) rfl rfl rfl hc1 (.c rfl .nil) (.cons rfl .nil) ?_
     refine .gv (f_fieldAddr (n := 32) (by rfl) fl26_1 (by decide)) rfl rfl rfl hc1 (.c rfl .nil) .nil ?_
     refine .gv (f_load (n := 0) (o := 3) (off := (0 + 32)) (p := [1]) (c := .d (eGLine a1)) (z := .d (eL24 a1.Txs)) (by rfl) rfl ty24 (by rfl)) rfl rfl rfl hc1 (.c rfl .nil) (.cons rfl .nil) ?_
     obtain ⟨y2, hy3, h⟩ := bind_some h
     refine .gv (f_callP hgl (by rfl) en92 rfl (by rfl) (by rfl) (by rfl) (F92_api_Tx_ok hy3)) rfl rfl rfl hc1 (.c rfl (.c rfl .nil)) .nil ?_
     refine .v (f_pick_true (by rfl) hc1) rfl (.c rfl (.c rfl .nil)) .nil ?_
     refine .as rfl (by rfl) ?_
     refine .nil ?_
     obtain rfl := Option.some.inj h
     refine aq_weak (s' := ⟨[(4, .d (.val (.bool y2)))], [], []⟩) id hb0 (.keep rfl .nil) .nil rfl (by rfl) ?_
     exact jq
   replace h := ite_f hc1 h
   refine .off rfl rfl rfl hc1 rfl (by rfl) ?_
   refine .off rfl rfl rfl hc1 rfl (by rfl) ?_
   refine .off rfl rfl rfl hc1 rfl (by rfl) ?_
   refine .off rfl rfl rfl hc1 rfl (by rfl) ?_
   refine .off rfl rfl rfl hc1 rfl (by rfl) ?_
   refine .v (f_pick_false (by rfl) hc1) rfl (.c rfl (.c rfl .nil)) .nil ?_
   refine .as rfl (by rfl) ?_
   refine .nil ?_
   obtain rfl := Option.some.inj h
   refine aq_weak (s' := ⟨[(4, .d (.val (.bool false)))], [], []⟩) id hb0 (.keep rfl .nil) .nil rfl (by rfl) ?_
   exact jq
 refine aq_then ?_
 refine aw_ret ?_
 obtain rfl := Option.some.inj h
 exact aq_finp hb0 rfl (.tmp rfl (by rfl) .nil) (by rfl) rfl ⟨rfl, rfl⟩

/- 99: slices.EqualFunc[[]beadroll/api.Line,[]beadroll/api.Line,beadroll/api.Line,beadroll/api.Line] -/
def F99_api_Line_385_s0 (n : Nat) (a0 : (List GLine)) (a1 : (List GLine)) (z0_0 : Int) : Option ((Int) ⊕ ((Unit) ⊕ (Unit))) :=
  (if (decide (z0_0 < ((a0).length : Int))) = true then ((rd a0 z0_0).bind fun (x3 : GLine) => ((rd a1 z0_0).bind fun (x6 : GLine) => ((F46_queue_Same n x3 x6).bind fun (y9 : Bool) => (if (!y9) = true then some (.inr (.inr ())) else some (.inl (IntKind.i64.wrap (z0_0 + (1 : Int)))))))) else some (.inr (.inl ())))
def F99_api_Line_385 (n : Nat) (a0 : (List GLine)) (a1 : (List GLine)) : Option (Bool) :=
  (if (((a0).length : Int) != ((a1).length : Int)) = true then some false else ((loopF (fun (z : Int) => F99_api_Line_385_s0 n a0 a1 z) n (0 : Int)).bind (Sum.elim (fun (j12 : Unit) => some true) (fun (j12 : Unit) => some false))))
theorem F99_api_Line_385_ok {n : Nat} {a0 : (List GLine)} {a1 : (List GLine)} {r : Bool} (h : F99_api_Line_385 n a0 a1 = some r) :
    ACall Tryd.prog GS 99 [.d (eL72 a0), .d (eL72 a1), .fn (.func 46) [] []] [] (fun r' hp' => r' = .d (.val (.bool r)) ∧ hp' = []) := by
 refine acall_of_body mixed Tryd.func99 rfl (by rfl) ?_
 intro C hro hgl hb0
 unfold F99_api_Line_385 at h
 refine aw_rs ?_
 refine .as rfl (by rfl) ?_
 refine .nil (aq_then ?_)
 refine aw_seq ?_
 refine aw_rs ?_
 refine .mv rfl (by rfl) ?_
 refine .v (f_lenD (n := (a0).length) (by rfl) sl72 rfl (by simp)) rfl (.c rfl .nil) .nil ?_
 refine .mv rfl (by rfl) ?_
 refine .v (f_lenD (n := (a1).length) (by rfl) sl72 rfl (by simp)) rfl (.c rfl .nil) .nil ?_
 refine .v (f_binI (by rfl) rfl (by rfl)) rfl (.c rfl (.c rfl .nil)) .nil ?_
 refine .nil (aq_then ?_)
 refine aw_cond rfl (fun hc1 => ?_) (fun hc1 => ?_)
 · replace h := ite_t hc1 h
   refine aw_rs ?_
   refine .as rfl (by rfl) ?_
   refine .nil (aq_then ?_)
   refine aw_ret ?_
   refine aq_then_ret ?_
   obtain rfl := Option.some.inj h
   exact aq_finp hb0 rfl (.tmp rfl (by rfl) .nil) (by rfl) rfl ⟨rfl, rfl⟩
 replace h := ite_f hc1 h
 refine aw_skip ?_
 refine aq_then ?_
 refine aw_seq ?_
 refine aw_rs ?_
 refine .mv rfl (by rfl) ?_
 refine .v (f_lenD (n := (a0).length) (by rfl) sl72 rfl (by simp)) rfl (.c rfl .nil) .nil ?_
 refine .mv rfl (by rfl) ?_
 refine .nil (aq_then ?_)
 refine aw_block ?_
 refine aw_weak (s' := ⟨[(1, .d (eL72 a1)), (2, .fn (.func 46) [] []), (15, .d (eL72 a0)), (16, .d (.val (.int .i64 ((a0).length : Int)))), (17, .d (.val (.int .i64 (0 : Int))))], [], []⟩) id hb0 (.keep rfl (.keep rfl (.keep rfl (.keep rfl (.keep rfl .nil))))) .nil rfl (by rfl) ?_
 obtain ⟨o12, ho13, h⟩ := bind_some h
 refine aw_loopX (σ := Int) (fun z => ⟨[(1, .d (eL72 a1)), (2, .fn (.func 46) [] []), (15, .d (eL72 a0)), (16, .d (.val (.int .i64 ((a0).length : Int)))), (17, .d (.val (.int .i64 z)))], [], []⟩) (Sum.elim (fun _ => .exit 0) (fun _ => .ret)) (Sum.elim (fun j12 => ⟨[], [], []⟩) (fun j12 => ⟨[(6, .d (.val (.bool false)))], [], []⟩)) ho13 (by intro b; rcases b with _ | _ <;> rfl) ?_ ?_
 · clear h ho13
   intro z0_0 o h
   change F99_api_Line_385_s0 n a0 a1 z0_0 = some o at h
   unfold F99_api_Line_385_s0 at h
   show AW _ _ _ ⟨[(1, .d (eL72 a1)), (2, .fn (.func 46) [] []), (15, .d (eL72 a0)), (16, .d (.val (.int .i64 ((a0).length : Int)))), (17, .d (.val (.int .i64 z0_0)))], [], []⟩
   refine aw_rs ?_
   refine .v (f_binI (by rfl) rfl (by rfl)) rfl (.c rfl (.c rfl .nil)) .nil ?_
   refine .nil (aq_then ?_)
   refine aw_seq ?_
   refine aw_cond rfl (fun hc2 => ?_) (fun hc2 => ?_)
   · replace h := ite_t hc2 h
     refine aw_skip ?_
     refine aq_then ?_
     refine aw_seq ?_
     refine aw_block ?_
     refine aw_rs ?_
     refine .mv rfl (by rfl) ?_
     obtain ⟨x3, hx4, h⟩ := bind_some h
     obtain ⟨hx5, hx4⟩ := rd_some hx4
     refine .v (f_indexS (by rfl) sl72 hx5 (rd_map _ hx4)) rfl (.c rfl (.c rfl .nil)) .nil ?_
     refine .v (f_loadR (z := (eGLine x3)) (by rfl) ty26) rfl (.c rfl .nil) .nil ?_
     refine .n (f_alloc 8 (by rfl) zrv26) rfl .nil rfl ?_
     refine .as rfl (by rfl) ?_
     refine .s (f_store (n := 0) (o := 8) (off := 0) (p := []) (c := .st [.d (eA22 (List.replicate 32 (0 : Int))), .d (.val (.slice none 0 0))]) (old := .st [.d (eA22 (List.replicate 32 (0 : Int))), .d (.val (.slice none 0 0))]) (z := .d (eGLine x3)) (c' := .d (eGLine x3)) rfl rfl (by rfl) ty26 (by rfl)) rfl (.c rfl (.c rfl .nil)) (.cons rfl .nil) ?_
     refine .nil (aq_then ?_)
     refine aw_rs ?_
     refine .mv rfl (by rfl) ?_
     refine .mv rfl (by rfl) ?_
     obtain ⟨x6, hx7, h⟩ := bind_some h
     obtain ⟨hx8, hx7⟩ := rd_some hx7
     refine .v (f_indexS (by rfl) sl72 hx8 (rd_map _ hx7)) rfl (.c rfl (.c rfl .nil)) .nil ?_
     refine .v (f_loadR (z := (eGLine x6)) (by rfl) ty26) rfl (.c rfl .nil) .nil ?_
     refine .n (f_alloc 9 (by rfl) zrv26) rfl .nil rfl ?_
     refine .s (f_store (n := 0) (o := 9) (off := 0) (p := []) (c := .st [.d (eA22 (List.replicate 32 (0 : Int))), .d (.val (.slice none 0 0))]) (old := .st [.d (eA22 (List.replicate 32 (0 : Int))), .d (.val (.slice none 0 0))]) (z := .d (eGLine x6)) (c' := .d (eGLine x6)) rfl rfl (by rfl) ty26 (by rfl)) rfl (.c rfl (.c rfl .nil)) (.cons rfl .nil) ?_
     refine .nil (aq_then ?_)
     refine aw_rs ?_
     refine .mv rfl (by rfl) ?_
     refine .v (f_load (n := 0) (o := 8) (off := 0) (p := []) (c := .d (eGLine x3)) (z := .d (eGLine x3)) (by rfl) rfl ty26 (by rfl)) rfl (.c rfl .nil) (.cons rfl .nil) ?_
     refine .v (f_load (n := 0) (o := 9) (off := 0) (p := []) (c := .d (eGLine x6)) (z := .d (eGLine x6)) (by rfl) rfl ty26 (by rfl)) rfl (.c rfl .nil) (.cons rfl .nil) ?_
     obtain ⟨y9, hy10, h⟩ := bind_some h
     refine .w (f_callG0 (xs := [.d (eGLine x3), .d (eGLine x6)]) (r := .d (.val (.bool y9))) (fun i => i) [] hgl (by rfl) (cal_v (first := []) (caps := []) en46) rfl (by rfl) (by rfl) (by rfl) (by rfl) (.cons (.same _) (.cons (.same _) .nil)) rfl rfl (F46_queue_Same_ok hy10)) rfl (.c rfl (.c rfl (.c rfl .nil))) .nil .nil ?_
     refine .v (f_not (by rfl)) rfl (.c rfl .nil) .nil ?_
     refine .nil (aq_then ?_)
     refine aw_cond rfl (fun hc11 => ?_) (fun hc11 => ?_)
     · replace h := ite_t hc11 h
       refine aw_rs ?_
       refine .as rfl (by rfl) ?_
       refine .nil (aq_then ?_)
       refine aw_ret ?_
       refine aq_block_ret ?_
       refine aq_then_ret ?_
       obtain rfl := Option.some.inj h
       refine aq_weak (s' := ⟨[(6, .d (.val (.bool false)))], [], []⟩) id hb0 (.keep rfl .nil) .nil rfl (by rfl) ?_
       exact jq
     replace h := ite_f hc11 h
     refine aw_skip ?_
     refine aq_block ?_
     refine aq_then ?_
     refine aw_r ?_
     refine .v (f_binI (by rfl) rfl (by rfl)) rfl (.c rfl (.c rfl .nil)) .nil ?_
     refine .mv rfl (by rfl) ?_
     refine .nil ?_
     obtain rfl := Option.some.inj h
     refine aq_weak (s' := ⟨[(1, .d (eL72 a1)), (2, .fn (.func 46) [] []), (15, .d (eL72 a0)), (16, .d (.val (.int .i64 ((a0).length : Int)))), (17, .d (.val (.int .i64 (IntKind.i64.wrap (z0_0 + (1 : Int))))))], [], []⟩) id hb0 (.keep rfl (.keep rfl (.keep rfl (.keep rfl (.keep rfl .nil))))) .nil rfl (by rfl) ?_
     exact jq
   replace h := ite_f hc2 h
   refine aw_exit ?_
   refine aq_then_exit ?_
   obtain rfl := Option.some.inj h
   refine aq_weak (s' := ⟨[], [], []⟩) id hb0 .nil .nil rfl (by rfl) ?_
   exact jq
 rcases o12 with j12 | j12
 · replace h := elim_l h
   refine aq_block_exit ?_
   refine aq_then ?_
   refine aw_rs ?_
   refine .as rfl (by rfl) ?_
   refine .nil (aq_then ?_)
   refine aw_ret ?_
   obtain rfl := Option.some.inj h
   exact aq_finp hb0 rfl (.tmp rfl (by rfl) .nil) (by rfl) rfl ⟨rfl, rfl⟩
 replace h := elim_r h
 refine aq_block_ret ?_
 refine aq_then_ret ?_
 obtain rfl := Option.some.inj h
 exact aq_finp hb0 rfl (.tmp rfl (by rfl) .nil) (by rfl) rfl ⟨rfl, rfl⟩

/- 59: beadroll/shard.Same -/
def F59_shard_Same (n : Nat) (a0 : GShard) (a1 : GShard) : Option (Bool) :=
  ((F99_api_Line_385 n a0.Lines a1.Lines).bind fun (y1 : Bool) => some y1)
theorem F59_shard_Same_ok {n : Nat} {a0 : GShard} {a1 : GShard} {r : Bool} (h : F59_shard_Same n a0 a1 = some r) :
    ACall Tryd.prog GS 59 [.d (eGShard a0), .d (eGShard a1)] [] (fun r' hp' => r' = .d (.val (.bool r)) ∧ hp' = []) := by
 refine acall_of_body mixed Tryd.func59 rfl (by rfl) ?_
 intro C hro hgl hb0
 unfold F59_shard_Same at h
 refine aw_rs ?_
 refine .n (f_box 2 (by rfl) (by rfl)) rfl (.c rfl .nil) rfl ?_
 refine .n (f_box 3 (by rfl) (by rfl)) rfl (.c rfl .nil) rfl ?_
 refine .as rfl (by rfl) ?_
 refine .nil (aq_then ?_)
 refine aw_rs ?_
 refine .v (f_fieldAddr (n := 0) (by rfl) fl74_0 (by decide)) rfl (.c rfl .nil) .nil ?_
 refine .v (f_load (n := 0) (o := 2) (off := (0 + 0)) (p := [0]) (c := .d (eGShard a0)) (z := .d (eL72 a0.Lines)) (by rfl) rfl ty72 (by rfl)) rfl (.c rfl .nil) (.cons rfl .nil) ?_
 refine .v (f_fieldAddr (n := 0) (by rfl) fl74_0 (by decide)) rfl (.c rfl .nil) .nil ?_
 refine .v (f_load (n := 0) (o := 3) (off := (0 + 0)) (p := [0]) (c := .d (eGShard a1)) (z := .d (eL72 a1.Lines)) (by rfl) rfl ty72 (by rfl)) rfl (.c rfl .nil) (.cons rfl .nil) ?_
 obtain ⟨y1, hy2, h⟩ := bind_some h
 refine .v (f_callP hgl (by rfl) en99 rfl (by rfl) (by rfl) (by rfl) (F99_api_Line_385_ok hy2)) rfl (.c rfl (.c rfl (.c rfl .nil))) .nil ?_
 refine .as rfl (by rfl) ?_
 refine .nil (aq_then ?_)
 refine aw_ret ?_
 obtain rfl := Option.some.inj h
 exact aq_finp hb0 rfl (.tmp rfl (by rfl) .nil) (by rfl) rfl ⟨rfl, rfl⟩

/- 58: beadroll/beadrollref20.Count -/
def F58_beadrollref20_Count_s0 (a0 : GShard) (z0_0 : Int) (z0_1 : Int) : Option ((Int × Int) ⊕ (Int)) :=
  (if (decide (z0_1 < ((a0.Lines).length : Int))) = true then ((rd a0.Lines z0_1).bind fun (x2 : GLine) => some (.inl ((IntKind.i64.wrap (z0_0 + ((x2.Txs).length : Int))), (IntKind.i64.wrap (z0_1 + (1 : Int)))))) else some (.inr z0_0))
def F58_beadrollref20_Count (n : Nat) (a0 : GShard) : Option (Int) :=
  ((loopF (fun (z : Int × Int) => F58_beadrollref20_Count_s0 a0 z.1 z.2) n ((0 : Int), (0 : Int))).bind fun (o5 : Int) => some o5)
theorem F58_beadrollref20_Count_ok {n : Nat} {a0 : GShard} {r : Int} (h : F58_beadrollref20_Count n a0 = some r) :
    ACall Tryd.prog GS 58 [.d (eGShard a0)] [] (fun r' hp' => r' = .d (.val (.int .i64 r)) ∧ hp' = []) := by
 refine acall_of_body mixed Tryd.func58 rfl (by rfl) ?_
 intro C hro hgl hb0
 unfold F58_beadrollref20_Count at h
 refine aw_rs ?_
 refine .n (f_box 1 (by rfl) (by rfl)) rfl (.c rfl .nil) rfl ?_
 refine .as rfl (by rfl) ?_
 refine .nil (aq_then ?_)
 refine aw_rs ?_
 refine .as rfl (by rfl) ?_
 refine .nil (aq_then ?_)
 refine aw_seq ?_
 refine aw_rs ?_
 refine .as rfl (by rfl) ?_
 refine .nil (aq_then ?_)
 refine aw_block ?_
 refine aw_weak (s' := ⟨[(1, .ptr 1 0 []), (3, .d (.val (.int .i64 (0 : Int)))), (4, .d (.val (.int .i64 (0 : Int))))], [(1, .av (.d (eGShard a0)))], []⟩) id hb0 (.keep rfl (.keep rfl (.keep rfl .nil))) (.keep rfl .nil) rfl (by rfl) ?_
 obtain ⟨o5, ho6, h⟩ := bind_some h
 refine aw_loopX (σ := Int × Int) (fun z => ⟨[(1, .ptr 1 0 []), (3, .d (.val (.int .i64 z.1))), (4, .d (.val (.int .i64 z.2)))], [(1, .av (.d (eGShard a0)))], []⟩) (fun _ => (.exit 0)) (fun (o5 : Int) => ⟨[(3, .d (.val (.int .i64 o5)))], [], []⟩) ho6 (fun _ => rfl) ?_ ?_
 · clear h ho6
   rintro ⟨z0_0, z0_1⟩ o h
   change F58_beadrollref20_Count_s0 a0 z0_0 z0_1 = some o at h
   unfold F58_beadrollref20_Count_s0 at h
   show AW _ _ _ ⟨[(1, .ptr 1 0 []), (3, .d (.val (.int .i64 z0_0))), (4, .d (.val (.int .i64 z0_1)))], [(1, .av (.d (eGShard a0)))], []⟩
   refine aw_seq ?_
   refine aw_rs ?_
   refine .mv rfl (by rfl) ?_
   refine .v (f_fieldAddr (n := 0) (by rfl) fl74_0 (by decide)) rfl (.c rfl .nil) .nil ?_
   refine .v (f_load (n := 0) (o := 1) (off := (0 + 0)) (p := [0]) (c := .d (eGShard a0)) (z := .d (eL72 a0.Lines)) (by rfl) rfl ty72 (by rfl)) rfl (.c rfl .nil) (.cons rfl .nil) ?_
   refine .v (f_lenD (n := (a0.Lines).length) (by rfl) sl72 rfl (by simp)) rfl (.c rfl .nil) .nil ?_
   refine .v (f_binI (by rfl) rfl (by rfl)) rfl (.c rfl (.c rfl .nil)) .nil ?_
   refine .nil (aq_then ?_)
   refine aw_cond rfl (fun hc1 => ?_) (fun hc1 => ?_)
   · replace h := ite_t hc1 h
     refine aw_skip ?_
     refine aq_then ?_
     refine aw_seq ?_
     refine aw_block ?_
     refine aw_r ?_
     refine .mv rfl (by rfl) ?_
     refine .v (f_fieldAddr (n := 0) (by rfl) fl74_0 (by decide)) rfl (.c rfl .nil) .nil ?_
     refine .v (f_load (n := 0) (o := 1) (off := (0 + 0)) (p := [0]) (c := .d (eGShard a0)) (z := .d (eL72 a0.Lines)) (by rfl) rfl ty72 (by rfl)) rfl (.c rfl .nil) (.cons rfl .nil) ?_
     refine .mv rfl (by rfl) ?_
     obtain ⟨x2, hx3, h⟩ := bind_some h
     obtain ⟨hx4, hx3⟩ := rd_some hx3
     refine .v (f_indexS (by rfl) sl72 hx4 (rd_map _ hx3)) rfl (.c rfl (.c rfl .nil)) .nil ?_
     refine .v (f_fieldAddrR (by rfl) fl26_1 (by decide) rfl) rfl (.c rfl .nil) .nil ?_
     refine .v (f_loadR (z := (eL24 x2.Txs)) (by rfl) ty24) rfl (.c rfl .nil) .nil ?_
     refine .v (f_lenD (n := (x2.Txs).length) (by rfl) sl24 rfl (by simp)) rfl (.c rfl .nil) .nil ?_
     refine .v (f_binI (by rfl) rfl (by rfl)) rfl (.c rfl (.c rfl .nil)) .nil ?_
     refine .as rfl (by rfl) ?_
     refine .nil ?_
     refine aq_block ?_
     refine aq_then ?_
     refine aw_r ?_
     refine .mv rfl (by rfl) ?_
     refine .v (f_binI (by rfl) rfl (by rfl)) rfl (.c rfl (.c rfl .nil)) .nil ?_
     refine .as rfl (by rfl) ?_
     refine .nil ?_
     obtain rfl := Option.some.inj h
     refine aq_weak (s' := ⟨[(1, .ptr 1 0 []), (3, .d (.val (.int .i64 (IntKind.i64.wrap (z0_0 + ((x2.Txs).length : Int)))))), (4, .d (.val (.int .i64 (IntKind.i64.wrap (z0_1 + (1 : Int))))))], [(1, .av (.d (eGShard a0)))], []⟩) id hb0 (.keep rfl (.keep rfl (.keep rfl .nil))) (.keep rfl .nil) rfl (by rfl) ?_
     exact jq
   replace h := ite_f hc1 h
   refine aw_exit ?_
   refine aq_then_exit ?_
   obtain rfl := Option.some.inj h
   refine aq_weak (s' := ⟨[(3, .d (.val (.int .i64 z0_0)))], [], []⟩) id hb0 (.keep rfl .nil) .nil rfl (by rfl) ?_
   exact jq
 refine aq_block_exit ?_
 refine aq_then ?_
 refine aw_rs ?_
 refine .mv rfl (by rfl) ?_
 refine .as rfl (by rfl) ?_
 refine .nil (aq_then ?_)
 refine aw_ret ?_
 obtain rfl := Option.some.inj h
 exact aq_finp hb0 rfl (.tmp rfl (by rfl) .nil) (by rfl) rfl ⟨rfl, rfl⟩

/- 20: beadroll/beadrollref19.SameTxs -/
def F20_beadrollref19_SameTxs_s0 (a0 : (List GTx)) (a1 : (List GTx)) (z0_0 : Int) : Option ((Int) ⊕ ((Unit) ⊕ (Unit))) :=
  (if (decide (z0_0 < ((a0).length : Int))) = true then ((rd a0 z0_0).bind fun (x3 : GTx) => ((rd a1 z0_0).bind fun (x6 : GTx) => (if (!(decide (x3 = x6))) = true then some (.inr (.inr ())) else some (.inl (IntKind.i64.wrap (z0_0 + (1 : Int))))))) else some (.inr (.inl ())))
def F20_beadrollref19_SameTxs (n : Nat) (a0 : (List GTx)) (a1 : (List GTx)) : Option (Bool) :=
  (if (((a0).length : Int) != ((a1).length : Int)) = true then some false else ((loopF (fun (z : Int) => F20_beadrollref19_SameTxs_s0 a0 a1 z) n (0 : Int)).bind (Sum.elim (fun (j10 : Unit) => some true) (fun (j10 : Unit) => some false))))
theorem F20_beadrollref19_SameTxs_ok {n : Nat} {a0 : (List GTx)} {a1 : (List GTx)} {r : Bool} (h : F20_beadrollref19_SameTxs n a0 a1 = some r) :
    ACall Tryd.prog GS 20 [.d (eL24 a0), .d (eL24 a1)] [] (fun r' hp' => r' = .d (.val (.bool r)) ∧ hp' = []) := by
 refine acall_of_body mixed Tryd.func20 rfl (by rfl) ?_
 intro C hro hgl hb0
 unfold F20_beadrollref19_SameTxs at h
 refine aw_rs ?_
 refine .as rfl (by rfl) ?_
 refine .nil (aq_then ?_)
 refine aw_seq ?_
 refine aw_rs ?_
 refine .mv rfl (by rfl) ?_
 refine .v (f_lenD (n := (a0).length) (by rfl) sl24 rfl (by simp)) rfl (.c rfl .nil) .nil ?_
 refine .mv rfl (by rfl) ?_
 refine .v (f_lenD (n := (a1).length) (by rfl) sl24 rfl (by simp)) rfl (.c rfl .nil) .nil ?_
 refine .v (f_binI (by rfl) rfl (by rfl)) rfl (.c rfl (.c rfl .nil)) .nil ?_
 refine .nil (aq_then ?_)
 refine aw_cond rfl (fun hc1 => ?_) (fun hc1 => ?_)
 · replace h := ite_t hc1 h
   refine aw_rs ?_
   refine .as rfl (by rfl) ?_
   refine .nil (aq_then ?_)
   refine aw_ret ?_
   refine aq_then_ret ?_
   obtain rfl := Option.some.inj h
   exact aq_finp hb0 rfl (.tmp rfl (by rfl) .nil) (by rfl) rfl ⟨rfl, rfl⟩
 replace h := ite_f hc1 h
 refine aw_skip ?_
 refine aq_then ?_
 refine aw_seq ?_
 refine aw_rs ?_
 refine .as rfl (by rfl) ?_
 refine .nil (aq_then ?_)
 refine aw_block ?_
 refine aw_weak (s' := ⟨[(0, .d (eL24 a0)), (1, .d (eL24 a1)), (5, .d (.val (.int .i64 (0 : Int))))], [], []⟩) id hb0 (.keep rfl (.keep rfl (.keep rfl .nil))) .nil rfl (by rfl) ?_
 obtain ⟨o10, ho11, h⟩ := bind_some h
 refine aw_loopX (σ := Int) (fun z => ⟨[(0, .d (eL24 a0)), (1, .d (eL24 a1)), (5, .d (.val (.int .i64 z)))], [], []⟩) (Sum.elim (fun _ => .exit 0) (fun _ => .ret)) (Sum.elim (fun j10 => ⟨[], [], []⟩) (fun j10 => ⟨[(4, .d (.val (.bool false)))], [], []⟩)) ho11 (by intro b; rcases b with _ | _ <;> rfl) ?_ ?_
 · clear h ho11
   intro z0_0 o h
   change F20_beadrollref19_SameTxs_s0 a0 a1 z0_0 = some o at h
   unfold F20_beadrollref19_SameTxs_s0 at h
   show AW _ _ _ ⟨[(0, .d (eL24 a0)), (1, .d (eL24 a1)), (5, .d (.val (.int .i64 z0_0)))], [], []⟩
   refine aw_seq ?_
   refine aw_rs ?_
   refine .mv rfl (by rfl) ?_
   refine .mv rfl (by rfl) ?_
   refine .v (f_lenD (n := (a0).length) (by rfl) sl24 rfl (by simp)) rfl (.c rfl .nil) .nil ?_
   refine .v (f_binI (by rfl) rfl (by rfl)) rfl (.c rfl (.c rfl .nil)) .nil ?_
   refine .nil (aq_then ?_)
   refine aw_cond rfl (fun hc2 => ?_) (fun hc2 => ?_)
   · replace h := ite_t hc2 h
     refine aw_skip ?_
     refine aq_then ?_
     refine aw_seq ?_
     refine aw_block ?_
     refine aw_rds ?_
     refine .v (f_move (by rfl)) rfl (.c rfl .nil) .nil ?_
     refine .v (f_move (by rfl)) rfl (.c rfl .nil) .nil ?_
     obtain ⟨x3, hx4, h⟩ := bind_some h
     obtain ⟨hx5, hx4⟩ := rd_some hx4
     refine .v (f_indexS (by rfl) sl24 hx5 (rd_map _ hx4)) rfl (.c rfl (.c rfl .nil)) .nil ?_
     refine .v (f_loadR (z := (eGTx x3)) (by rfl) ty36) rfl (.c rfl .nil) .nil ?_
     refine .v (f_move (by rfl)) rfl (.c rfl .nil) .nil ?_
     refine .v (f_move (by rfl)) rfl (.c rfl .nil) .nil ?_
     obtain ⟨x6, hx7, h⟩ := bind_some h
     obtain ⟨hx8, hx7⟩ := rd_some hx7
     refine .v (f_indexS (by rfl) sl24 hx8 (rd_map _ hx7)) rfl (.c rfl (.c rfl .nil)) .nil ?_
     refine .v (f_loadR (z := (eGTx x6)) (by rfl) ty36) rfl (.c rfl .nil) .nil ?_
     refine .v (f_neqT (by rfl) (fit36 _) (fit36 _) (by rfl) (by rfl) gd36 (eq_eGTx _ _)) rfl (.c rfl (.c rfl .nil)) .nil ?_
     refine .nil (by kernel_rfl) ?_
     refine aw_cond rfl (fun hc9 => ?_) (fun hc9 => ?_)
     · replace h := ite_t hc9 h
       refine aw_rs ?_
       refine .as rfl (by rfl) ?_
       refine .nil (aq_then ?_)
       refine aw_ret ?_
       refine aq_block_ret ?_
       refine aq_then_ret ?_
       obtain rfl := Option.some.inj h
       refine aq_weak (s' := ⟨[(4, .d (.val (.bool false)))], [], []⟩) id hb0 (.keep rfl .nil) .nil rfl (by rfl) ?_
       exact jq
     replace h := ite_f hc9 h
     refine aw_skip ?_
     refine aq_block ?_
     refine aq_then ?_
     refine aw_r ?_
     refine .mv rfl (by rfl) ?_
     refine .v (f_binI (by rfl) rfl (by rfl)) rfl (.c rfl (.c rfl .nil)) .nil ?_
     refine .as rfl (by rfl) ?_
     refine .nil ?_
     obtain rfl := Option.some.inj h
     refine aq_weak (s' := ⟨[(0, .d (eL24 a0)), (1, .d (eL24 a1)), (5, .d (.val (.int .i64 (IntKind.i64.wrap (z0_0 + (1 : Int))))))], [], []⟩) id hb0 (.keep rfl (.keep rfl (.keep rfl .nil))) .nil rfl (by rfl) ?_
     exact jq
   replace h := ite_f hc2 h
   refine aw_exit ?_
   refine aq_then_exit ?_
   obtain rfl := Option.some.inj h
   refine aq_weak (s' := ⟨[], [], []⟩) id hb0 .nil .nil rfl (by rfl) ?_
   exact jq
 rcases o10 with j10 | j10
 · replace h := elim_l h
   refine aq_block_exit ?_
   refine aq_then ?_
   refine aw_rs ?_
   refine .as rfl (by rfl) ?_
   refine .nil (aq_then ?_)
   refine aw_ret ?_
   obtain rfl := Option.some.inj h
   exact aq_finp hb0 rfl (.tmp rfl (by rfl) .nil) (by rfl) rfl ⟨rfl, rfl⟩
 replace h := elim_r h
 refine aq_block_ret ?_
 refine aq_then_ret ?_
 obtain rfl := Option.some.inj h
 exact aq_finp hb0 rfl (.tmp rfl (by rfl) .nil) (by rfl) rfl ⟨rfl, rfl⟩

/- 44: beadroll/beadrollref19.Same -/
def F44_beadrollref19_Same (n : Nat) (a0 : GLine) (a1 : GLine) : Option (Bool) :=
  (((if (decide (a0.From = a1.From)) = true then ((F20_beadrollref19_SameTxs n a0.Txs a1.Txs).bind fun (y2 : Bool) => some y2) else some false)).bind fun (o4 : Bool) => some o4)
theorem F44_beadrollref19_Same_ok {n : Nat} {a0 : GLine} {a1 : GLine} {r : Bool} (h : F44_beadrollref19_Same n a0 a1 = some r) :
    ACall Tryd.prog GS 44 [.d (eGLine a0), .d (eGLine a1)] [] (fun r' hp' => r' = .d (.val (.bool r)) ∧ hp' = []) := by
 refine acall_of_body mixed Tryd.func44 rfl (by rfl) ?_
 intro C hro hgl hb0
 unfold F44_beadrollref19_Same at h
 refine aw_rs ?_
 refine .n (f_box 2 (by rfl) (by rfl)) rfl (.c rfl .nil) rfl ?_
 refine .n (f_box 3 (by rfl) (by rfl)) rfl (.c rfl .nil) rfl ?_
 refine .as rfl (by rfl) ?_
 refine .nil (aq_then ?_)
 refine aw_seq ?_
 obtain ⟨o4, ho5, h⟩ := bind_some h
 refine aw_join (.normal) ⟨[(4, .d (.val (.bool o4)))], [], []⟩ ?_ ?_
 · replace h := ho5
   refine aw_r ?_
   refine .v (f_fieldAddr (n := 0) (by rfl) fl26_0 (by decide)) rfl (.c rfl .nil) .nil ?_
   refine .v (f_load (n := 0) (o := 2) (off := (0 + 0)) (p := [0]) (c := .d (eGLine a0)) (z := .d (eA22 a0.From)) (by rfl) rfl ty23 (by rfl)) rfl (.c rfl .nil) (.cons rfl .nil) ?_
   refine .v (f_fieldAddr (n := 0) (by rfl) fl26_0 (by decide)) rfl (.c rfl .nil) .nil ?_
   refine .v (f_load (n := 0) (o := 3) (off := (0 + 0)) (p := [0]) (c := .d (eGLine a1)) (z := .d (eA22 a1.From)) (by rfl) rfl ty23 (by rfl)) rfl (.c rfl .nil) (.cons rfl .nil) ?_
   refine .v (f_eqlT (by rfl) (fit23 _) (fit23 _) (by rfl) (by rfl) gd23 (eq_eA22 _ _)) rfl (.c rfl (.c rfl .nil)) .nil ?_
   refine .mv rfl (by rfl) ?_
   rcases Bool.eq_false_or_eq_true (decide (a0.From = a1.From)) with hc1 | hc1
   · replace h := ite_t hc1 h
     refine .gv (f_fieldAddr (n := 32) (by rfl) fl26_1 (by decide)) rfl rfl rfl hc1 (.c rfl .nil) .nil ?_
     refine .gv (f_load (n := 0) (o := 2) (off := (0 + 32)) (p := [1]) (c := .d (eGLine a0)) (z := .d (eL24 a0.Txs)) (by rfl) rfl ty24 (by rfl)) rfl rfl rfl hc1 (.c rfl .nil) (.cons rfl .nil) ?_
     refine .gv (f_fieldAddr (n := 32) (by rfl) fl26_1 (by decide)) rfl rfl rfl hc1 (.c rfl .nil) .nil ?_
     refine .gv (f_load (n := 0) (o := 3) (off := (0 + 32)) (p := [1]) (c := .d (eGLine a1)) (z := .d (eL24 a1.Txs)) (by rfl) rfl ty24 (by rfl)) rfl rfl rfl hc1 (.c rfl .nil) (.cons rfl .nil) ?_
     obtain ⟨y2, hy3, h⟩ := bind_some h
     refine .gv (f_callP hgl (by rfl) en20 rfl (by rfl) (by rfl) (by rfl) (F20_beadrollref19_SameTxs_ok hy3)) rfl rfl rfl hc1 (.c rfl (.c rfl .nil)) .nil ?_
     refine .v (f_pick_true (by rfl) hc1) rfl (.c rfl (.c rfl .nil)) .nil ?_
     refine .as rfl (by rfl) ?_
     refine .nil ?_
     obtain rfl := Option.some.inj h
     refine aq_weak (s' := ⟨[(4, .d (.val (.bool y2)))], [], []⟩) id hb0 (.keep rfl .nil) .nil rfl (by rfl) ?_
     exact jq
   replace h := ite_f hc1 h
   refine .off rfl rfl rfl hc1 rfl (by rfl) ?_
   refine .off rfl rfl rfl hc1 rfl (by rfl) ?_
   refine .off rfl rfl rfl hc1 rfl (by rfl) ?_
   refine .off rfl rfl rfl hc1 rfl (by rfl) ?_
   refine .off rfl rfl rfl hc1 rfl (by rfl) ?_
   refine .v (f_pick_false (by rfl) hc1) rfl (.c rfl (.c rfl .nil)) .nil ?_
   refine .as rfl (by rfl) ?_
   refine .nil ?_
   obtain rfl := Option.some.inj h
   refine aq_weak (s' := ⟨[(4, .d (.val (.bool false)))], [], []⟩) id hb0 (.keep rfl .nil) .nil rfl (by rfl) ?_
   exact jq
 refine aq_then ?_
 refine aw_ret ?_
 obtain rfl := Option.some.inj h
 exact aq_finp hb0 rfl (.tmp rfl (by rfl) .nil) (by rfl) rfl ⟨rfl, rfl⟩

/- 56: beadroll/beadrollref20.Same -/
def F56_beadrollref20_Same_s0 (n : Nat) (a0 : GShard) (a1 : GShard) (z0_0 : Int) : Option ((Int) ⊕ ((Unit) ⊕ (Unit))) :=
  (if (decide (z0_0 < ((a0.Lines).length : Int))) = true then ((rd a0.Lines z0_0).bind fun (x3 : GLine) => ((rd a1.Lines z0_0).bind fun (x6 : GLine) => ((F44_beadrollref19_Same n x3 x6).bind fun (y9 : Bool) => (if (!y9) = true then some (.inr (.inr ())) else some (.inl (IntKind.i64.wrap (z0_0 + (1 : Int)))))))) else some (.inr (.inl ())))
def F56_beadrollref20_Same (n : Nat) (a0 : GShard) (a1 : GShard) : Option (Bool) :=
  (if (((a0.Lines).length : Int) != ((a1.Lines).length : Int)) = true then some false else ((loopF (fun (z : Int) => F56_beadrollref20_Same_s0 n a0 a1 z) n (0 : Int)).bind (Sum.elim (fun (j12 : Unit) => some true) (fun (j12 : Unit) => some false))))
theorem F56_beadrollref20_Same_ok {n : Nat} {a0 : GShard} {a1 : GShard} {r : Bool} (h : F56_beadrollref20_Same n a0 a1 = some r) :
    ACall Tryd.prog GS 56 [.d (eGShard a0), .d (eGShard a1)] [] (fun r' hp' => r' = .d (.val (.bool r)) ∧ hp' = []) := by
 refine acall_of_body mixed Tryd.func56 rfl (by rfl) ?_
 intro C hro hgl hb0
 unfold F56_beadrollref20_Same at h
 refine aw_rs ?_
 refine .n (f_box 2 (by rfl) (by rfl)) rfl (.c rfl .nil) rfl ?_
 refine .n (f_box 3 (by rfl) (by rfl)) rfl (.c rfl .nil) rfl ?_
 refine .as rfl (by rfl) ?_
 refine .nil (aq_then ?_)
 refine aw_seq ?_
 refine aw_rs ?_
 refine .v (f_fieldAddr (n := 0) (by rfl) fl74_0 (by decide)) rfl (.c rfl .nil) .nil ?_
 refine .v (f_load (n := 0) (o := 2) (off := (0 + 0)) (p := [0]) (c := .d (eGShard a0)) (z := .d (eL72 a0.Lines)) (by rfl) rfl ty72 (by rfl)) rfl (.c rfl .nil) (.cons rfl .nil) ?_
 refine .v (f_lenD (n := (a0.Lines).length) (by rfl) sl72 rfl (by simp)) rfl (.c rfl .nil) .nil ?_
 refine .v (f_fieldAddr (n := 0) (by rfl) fl74_0 (by decide)) rfl (.c rfl .nil) .nil ?_
 refine .v (f_load (n := 0) (o := 3) (off := (0 + 0)) (p := [0]) (c := .d (eGShard a1)) (z := .d (eL72 a1.Lines)) (by rfl) rfl ty72 (by rfl)) rfl (.c rfl .nil) (.cons rfl .nil) ?_
 refine .v (f_lenD (n := (a1.Lines).length) (by rfl) sl72 rfl (by simp)) rfl (.c rfl .nil) .nil ?_
 refine .v (f_binI (by rfl) rfl (by rfl)) rfl (.c rfl (.c rfl .nil)) .nil ?_
 refine .nil (aq_then ?_)
 refine aw_cond rfl (fun hc1 => ?_) (fun hc1 => ?_)
 · replace h := ite_t hc1 h
   refine aw_rs ?_
   refine .as rfl (by rfl) ?_
   refine .nil (aq_then ?_)
   refine aw_ret ?_
   refine aq_then_ret ?_
   obtain rfl := Option.some.inj h
   exact aq_finp hb0 rfl (.tmp rfl (by rfl) .nil) (by rfl) rfl ⟨rfl, rfl⟩
 replace h := ite_f hc1 h
 refine aw_skip ?_
 refine aq_then ?_
 refine aw_seq ?_
 refine aw_rs ?_
 refine .as rfl (by rfl) ?_
 refine .nil (aq_then ?_)
 refine aw_block ?_
 refine aw_weak (s' := ⟨[(2, .ptr 2 0 []), (3, .ptr 3 0 []), (5, .d (.val (.int .i64 (0 : Int))))], [(2, .av (.d (eGShard a0))), (3, .av (.d (eGShard a1)))], []⟩) id hb0 (.keep rfl (.keep rfl (.keep rfl .nil))) (.keep rfl (.keep rfl .nil)) rfl (by rfl) ?_
 obtain ⟨o12, ho13, h⟩ := bind_some h
 refine aw_loopX (σ := Int) (fun z => ⟨[(2, .ptr 2 0 []), (3, .ptr 3 0 []), (5, .d (.val (.int .i64 z)))], [(2, .av (.d (eGShard a0))), (3, .av (.d (eGShard a1)))], []⟩) (Sum.elim (fun _ => .exit 0) (fun _ => .ret)) (Sum.elim (fun j12 => ⟨[], [], []⟩) (fun j12 => ⟨[(4, .d (.val (.bool false)))], [], []⟩)) ho13 (by intro b; rcases b with _ | _ <;> rfl) ?_ ?_
 · clear h ho13
   intro z0_0 o h
   change F56_beadrollref20_Same_s0 n a0 a1 z0_0 = some o at h
   unfold F56_beadrollref20_Same_s0 at h
   show AW _ _ _ ⟨[(2, .ptr 2 0 []), (3, .ptr 3 0 []), (5, .d (.val (.int .i64 z0_0)))], [(2, .av (.d (eGShard a0))), (3, .av (.d (eGShard a1)))], []⟩
   refine aw_seq ?_
   refine aw_rs ?_
   refine .mv rfl (by rfl) ?_
   refine .v (f_fieldAddr (n := 0) (by rfl) fl74_0 (by decide)) rfl (.c rfl .nil) .nil ?_
   refine .v (f_load (n := 0) (o := 2) (off := (0 + 0)) (p := [0]) (c := .d (eGShard a0)) (z := .d (eL72 a0.Lines)) (by rfl) rfl ty72 (by rfl)) rfl (.c rfl .nil) (.cons rfl .nil) ?_
   refine .v (f_lenD (n := (a0.Lines).length) (by rfl) sl72 rfl (by simp)) rfl (.c rfl .nil) .nil ?_
   refine .v (f_binI (by rfl) rfl (by rfl)) rfl (.c rfl (.c rfl .nil)) .nil ?_
   refine .nil (aq_then ?_)
   refine aw_cond rfl (fun hc2 => ?_) (fun hc2 => ?_)
   · replace h := ite_t hc2 h
     refine aw_skip ?_
     refine aq_then ?_
     refine aw_seq ?_
     refine aw_block ?_
     refine aw_rds ?_
     refine .v (f_fieldAddr (n := 0) (by rfl) fl74_0 (by decide)) rfl (.c rfl .nil) .nil ?_
     refine .v (f_load (n := 0) (o := 2) (off := (0 + 0)) (p := [0]) (c := .d (eGShard a0)) (z := .d (eL72 a0.Lines)) (by rfl) rfl ty72 (by rfl)) rfl (.c rfl .nil) (.cons rfl .nil) ?_
     refine .v (f_move (by rfl)) rfl (.c rfl .nil) .nil ?_
     obtain ⟨x3, hx4, h⟩ := bind_some h
     obtain ⟨hx5, hx4⟩ := rd_some hx4
     refine .v (f_indexS (by rfl) sl72 hx5 (rd_map _ hx4)) rfl (.c rfl (.c rfl .nil)) .nil ?_
     refine .v (f_loadR (z := (eGLine x3)) (by rfl) ty26) rfl (.c rfl .nil) .nil ?_
     refine .v (f_fieldAddr (n := 0) (by rfl) fl74_0 (by decide)) rfl (.c rfl .nil) .nil ?_
     refine .v (f_load (n := 0) (o := 3) (off := (0 + 0)) (p := [0]) (c := .d (eGShard a1)) (z := .d (eL72 a1.Lines)) (by rfl) rfl ty72 (by rfl)) rfl (.c rfl .nil) (.cons rfl .nil) ?_
     refine .v (f_move (by rfl)) rfl (.c rfl .nil) .nil ?_
     obtain ⟨x6, hx7, h⟩ := bind_some h
     obtain ⟨hx8, hx7⟩ := rd_some hx7
     refine .v (f_indexS (by rfl) sl72 hx8 (rd_map _ hx7)) rfl (.c rfl (.c rfl .nil)) .nil ?_
     refine .v (f_loadR (z := (eGLine x6)) (by rfl) ty26) rfl (.c rfl .nil) .nil ?_
     obtain ⟨y9, hy10, h⟩ := bind_some h
     refine .v (f_callP hgl (by rfl) en44 rfl (by rfl) (by rfl) (by rfl) (F44_beadrollref19_Same_ok hy10)) rfl (.c rfl (.c rfl .nil)) .nil ?_
     refine .v (f_not (by rfl)) rfl (.c rfl .nil) .nil ?_
     refine .nil (by kernel_rfl) ?_
     refine aw_cond rfl (fun hc11 => ?_) (fun hc11 => ?_)
     · replace h := ite_t hc11 h
       refine aw_rs ?_
       refine .as rfl (by rfl) ?_
       refine .nil (aq_then ?_)
       refine aw_ret ?_
       refine aq_block_ret ?_
       refine aq_then_ret ?_
       obtain rfl := Option.some.inj h
       refine aq_weak (s' := ⟨[(4, .d (.val (.bool false)))], [], []⟩) id hb0 (.keep rfl .nil) .nil rfl (by rfl) ?_
       exact jq
     replace h := ite_f hc11 h
     refine aw_skip ?_
     refine aq_block ?_
     refine aq_then ?_
     refine aw_r ?_
     refine .mv rfl (by rfl) ?_
     refine .v (f_binI (by rfl) rfl (by rfl)) rfl (.c rfl (.c rfl .nil)) .nil ?_
     refine .as rfl (by rfl) ?_
     refine .nil ?_
     obtain rfl := Option.some.inj h
     refine aq_weak (s' := ⟨[(2, .ptr 2 0 []), (3, .ptr 3 0 []), (5, .d (.val (.int .i64 (IntKind.i64.wrap (z0_0 + (1 : Int))))))], [(2, .av (.d (eGShard a0))), (3, .av (.d (eGShard a1)))], []⟩) id hb0 (.keep rfl (.keep rfl (.keep rfl .nil))) (.keep rfl (.keep rfl .nil)) rfl (by rfl) ?_
     exact jq
   replace h := ite_f hc2 h
   refine aw_exit ?_
   refine aq_then_exit ?_
   obtain rfl := Option.some.inj h
   refine aq_weak (s' := ⟨[], [], []⟩) id hb0 .nil .nil rfl (by rfl) ?_
   exact jq
 rcases o12 with j12 | j12
 · replace h := elim_l h
   refine aq_block_exit ?_
   refine aq_then ?_
   refine aw_rs ?_
   refine .as rfl (by rfl) ?_
   refine .nil (aq_then ?_)
   refine aw_ret ?_
   obtain rfl := Option.some.inj h
   exact aq_finp hb0 rfl (.tmp rfl (by rfl) .nil) (by rfl) rfl ⟨rfl, rfl⟩
 replace h := elim_r h
 refine aq_block_ret ?_
 refine aq_then_ret ?_
 obtain rfl := Option.some.inj h
 exact aq_finp hb0 rfl (.tmp rfl (by rfl) .nil) (by rfl) rfl ⟨rfl, rfl⟩

/- 40: beadroll/beadrollref19.Twin -/
def F40_beadrollref19_Twin (n : Nat) (a0 : GLine) : Option (GLine) :=
  (if ((a0.Txs)).length ≤ 1073741824 then some (⟨a0.From, (a0.Txs)⟩ : GLine) else none)
theorem F40_beadrollref19_Twin_ok {n : Nat} {a0 : GLine} {r : GLine} (h : F40_beadrollref19_Twin n a0 = some r) :
    ACall Tryd.prog GS 40 [.d (eGLine a0)] [] (fun r' hp' => r' = .d (eGLine r) ∧ hp' = []) := by
 refine acall_of_body mixed Tryd.func40 rfl (by rfl) ?_
 intro C hro hgl hb0
 unfold F40_beadrollref19_Twin at h
 refine aw_rs ?_
 refine .n (f_box 1 (by rfl) (by rfl)) rfl (.c rfl .nil) rfl ?_
 refine .n (f_alloc 2 (by rfl) zrv26) rfl .nil rfl ?_
 refine .nil (aq_then ?_)
 refine aw_rs ?_
 refine .v (f_fieldAddr (n := 0) (by rfl) fl26_0 (by decide)) rfl (.c rfl .nil) .nil ?_
 refine .v (f_load (n := 0) (o := 1) (off := (0 + 0)) (p := [0]) (c := .d (eGLine a0)) (z := .d (eA22 a0.From)) (by rfl) rfl ty23 (by rfl)) rfl (.c rfl .nil) (.cons rfl .nil) ?_
 refine .v (f_build (xs := [(0, .d (eA22 a0.From))]) (z' := .st [.d (eA22 a0.From), .d (.val (.slice none 0 0))]) (by rfl) zrv26 ag26 rfl (by rfl) ⟨_, _, _, rfl, pl26_0, rfl, rfl, trivial⟩ (by rfl) (by rfl)) rfl (.c rfl .nil) .nil ?_
 refine .n (f_alloc 3 (by rfl) zrv26) rfl .nil rfl ?_
 refine .s (f_store (n := 0) (o := 3) (off := 0) (p := []) (c := .st [.d (eA22 (List.replicate 32 (0 : Int))), .d (.val (.slice none 0 0))]) (old := .st [.d (eA22 (List.replicate 32 (0 : Int))), .d (.val (.slice none 0 0))]) (z := .st [.d (eA22 a0.From), .d (.val (.slice none 0 0))]) (c' := .st [.d (eA22 a0.From), .d (.val (.slice none 0 0))]) rfl rfl (by rfl) ty26 (by rfl)) rfl (.c rfl (.c rfl .nil)) (.cons rfl .nil) ?_
 refine .nil (aq_then ?_)
 refine aw_rs ?_
 refine .v (f_fieldAddr (n := 32) (by rfl) fl26_1 (by decide)) rfl (.c rfl .nil) .nil ?_
 refine .v (f_load (n := 0) (o := 3) (off := (0 + 32)) (p := [1]) (c := .st [.d (eA22 a0.From), .d (.val (.slice none 0 0))]) (z := .d (.val (.slice none 0 0))) (by rfl) rfl ty24 (by rfl)) rfl (.c rfl .nil) (.cons rfl .nil) ?_
 refine .v (f_fieldAddr (n := 32) (by rfl) fl26_1 (by decide)) rfl (.c rfl .nil) .nil ?_
 refine .v (f_load (n := 0) (o := 1) (off := (0 + 32)) (p := [1]) (c := .d (eGLine a0)) (z := .d (eL24 a0.Txs)) (by rfl) rfl ty24 (by rfl)) rfl (.c rfl .nil) (.cons rfl .nil) ?_
 obtain ⟨hb1, h⟩ := ifp h
 refine .w (f_appendN (m := ((a0.Txs)).length) (ys := (a0.Txs : List GTx).map eGTx) 1064 (by rfl) el24 (by simp) (by omega) (Nat.le_trans hb1 (by decide)) srcD) rfl (.c rfl (.c rfl .nil)) .nil (.cons rfl .nil) ?_
 refine .v (f_fieldAddr (n := 32) (by rfl) fl26_1 (by decide)) rfl (.c rfl .nil) .nil ?_
 refine .s (f_store (n := 0) (o := 3) (off := (0 + 32)) (p := [1]) (c := .st [.d (eA22 a0.From), .d (.val (.slice none 0 0))]) (old := .d (.val (.slice none 0 0))) (z := .slc 1064 0 (((a0.Txs)).length) 99) (c' := .st [.d (eA22 a0.From), .slc 1064 0 (((a0.Txs)).length) 99]) rfl rfl (by rfl) ty24 (by rfl)) rfl (.c rfl (.c rfl .nil)) (.cons rfl .nil) ?_
 refine .nil (aq_then ?_)
 refine aw_rs ?_
 refine .v (f_load (n := 0) (o := 3) (off := 0) (p := []) (c := .st [.d (eA22 a0.From), .slc 1064 0 (((a0.Txs)).length) 99]) (z := .st [.d (eA22 a0.From), .slc 1064 0 (((a0.Txs)).length) 99]) (by rfl) rfl ty26 (by rfl)) rfl (.c rfl .nil) (.cons rfl .nil) ?_
 refine .s (f_store (n := 0) (o := 2) (off := 0) (p := []) (c := .st [.d (eA22 (List.replicate 32 (0 : Int))), .d (.val (.slice none 0 0))]) (old := .st [.d (eA22 (List.replicate 32 (0 : Int))), .d (.val (.slice none 0 0))]) (z := .st [.d (eA22 a0.From), .slc 1064 0 (((a0.Txs)).length) 99]) (c' := .st [.d (eA22 a0.From), .slc 1064 0 (((a0.Txs)).length) 99]) rfl rfl (by rfl) ty26 (by rfl)) rfl (.c rfl (.c rfl .nil)) (.cons rfl .nil) ?_
 refine .nil (aq_then ?_)
 refine aw_ret ?_
 obtain rfl := Option.some.inj h
 refine aq_freezeH [(1064, (.arr 99 (((a0.Txs)).length) (((a0.Txs)).map eGTx)))] [(2, .ptr 2 0 [])] [(2, .av (.d (eGLine (⟨a0.From, (a0.Txs)⟩ : GLine)))), (3, .av (.d (eGLine (⟨a0.From, (a0.Txs)⟩ : GLine))))] (.cons rfl .nil) (.keep rfl .nil) (.cons rfl (by rfl) (.st (.cons (.same _) (.cons (.whole (.head _)) .nil))) (.cons rfl (by rfl) (.st (.cons (.same _) (.cons (.whole (.head _)) .nil))) .nil)) ?_
 exact aq_finp hb0 rfl (.cell rfl rfl ty26 (by rfl) .nil) (by rfl) rfl ⟨rfl, rfl⟩

/- 54: beadroll/beadrollref20.Twin -/
def F54_beadrollref20_Twin_s0 (n : Nat) (a0 : GShard) (z0_0 : Int) (z0_1 : List GLine) : Option ((Int × List GLine) ⊕ (List GLine)) :=
  (if (decide (z0_0 < ((a0.Lines).length : Int))) = true then ((rd a0.Lines z0_0).bind fun (x2 : GLine) => ((F40_beadrollref19_Twin n x2).bind fun (y5 : GLine) => (if ((z0_1 ++ ([y5] : List GLine))).length ≤ 1073741824 then some (.inl ((IntKind.i64.wrap (z0_0 + (1 : Int))), (z0_1 ++ ([y5] : List GLine)))) else none))) else some (.inr z0_1))
def F54_beadrollref20_Twin (n : Nat) (a0 : GShard) : Option (GShard) :=
  ((loopF (fun (z : Int × List GLine) => F54_beadrollref20_Twin_s0 n a0 z.1 z.2) n ((0 : Int), ([] : List GLine))).bind fun (o8 : List GLine) => some (⟨o8⟩ : GShard))
theorem F54_beadrollref20_Twin_ok {n : Nat} {a0 : GShard} {r : GShard} (h : F54_beadrollref20_Twin n a0 = some r) :
    ACall Tryd.prog GS 54 [.d (eGShard a0)] [] (fun r' hp' => r' = .d (eGShard r) ∧ hp' = []) := by
 refine acall_of_body mixed Tryd.func54 rfl (by rfl) ?_
 intro C hro hgl hb0
 unfold F54_beadrollref20_Twin at h
 refine aw_rs ?_
 refine .n (f_box 1 (by rfl) (by rfl)) rfl (.c rfl .nil) rfl ?_
 refine .n (f_alloc 2 (by rfl) zrv74) rfl .nil rfl ?_
 refine .nil (aq_then ?_)
 refine aw_rs ?_
 refine .n (f_alloc 3 (by rfl) zrv74) rfl .nil rfl ?_
 refine .nil (aq_then ?_)
 refine aw_seq ?_
 refine aw_rs ?_
 refine .as rfl (by rfl) ?_
 refine .nil (aq_then ?_)
 refine aw_block ?_
 refine aw_adoptP 3 1067 33 0 rfl rfl rfl rfl ?_
 refine aw_weak (s' := ⟨[(1, .ptr 1 0 []), (2, .ptr 2 0 []), (3, .ptr 3 0 []), (4, .d (.val (.int .i64 (0 : Int))))], [(1, .av (.d (eGShard a0))), (2, .av (.st [.d (.val (.slice none 0 0))])), (3, .av (.st [.slc 1067 0 ((([] : List GLine)).length) 33])), (1067, .av (.d (.arr 33 ((([] : List GLine)).length) ((([] : List GLine)).map eGLine))))], []⟩) id hb0 (.keep rfl (.keep rfl (.keep rfl (.keep rfl .nil)))) (.keep rfl (.keep rfl (.keep (by simp only [List.length_set]; rfl) (.keep (by simp only [List.length_set]; rfl) .nil)))) rfl (by rfl) ?_
 obtain ⟨o8, ho9, h⟩ := bind_some h
 refine aw_loopX (σ := Int × List GLine) (fun z => ⟨[(1, .ptr 1 0 []), (2, .ptr 2 0 []), (3, .ptr 3 0 []), (4, .d (.val (.int .i64 z.1)))], [(1, .av (.d (eGShard a0))), (2, .av (.st [.d (.val (.slice none 0 0))])), (3, .av (.st [.slc 1067 0 ((z.2).length) 33])), (1067, .av (.d (.arr 33 ((z.2).length) ((z.2).map eGLine))))], []⟩) (fun _ => (.exit 0)) (fun (o8 : List GLine) => ⟨[(2, .ptr 2 0 []), (3, .ptr 3 0 [])], [(2, .av (.st [.d (.val (.slice none 0 0))])), (3, .av (.st [.slc 1067 0 ((o8).length) 33])), (1067, .av (.d (.arr 33 ((o8).length) ((o8).map eGLine))))], []⟩) ho9 (fun _ => rfl) ?_ ?_
 · clear h ho9
   rintro ⟨z0_0, z0_1⟩ o h
   change F54_beadrollref20_Twin_s0 n a0 z0_0 z0_1 = some o at h
   unfold F54_beadrollref20_Twin_s0 at h
   show AW _ _ _ ⟨[(1, .ptr 1 0 []), (2, .ptr 2 0 []), (3, .ptr 3 0 []), (4, .d (.val (.int .i64 z0_0)))], [(1, .av (.d (eGShard a0))), (2, .av (.st [.d (.val (.slice none 0 0))])), (3, .av (.st [.slc 1067 0 ((z0_1).length) 33])), (1067, .av (.d (.arr 33 ((z0_1).length) ((z0_1).map eGLine))))], []⟩
   refine aw_seq ?_
   refine aw_rs ?_
   refine .mv rfl (by rfl) ?_
   refine .v (f_fieldAddr (n := 0) (by rfl) fl74_0 (by decide)) rfl (.c rfl .nil) .nil ?_
   refine .v (f_load (n := 0) (o := 1) (off := (0 + 0)) (p := [0]) (c := .d (eGShard a0)) (z := .d (eL72 a0.Lines)) (by rfl) rfl ty72 (by rfl)) rfl (.c rfl .nil) (.cons rfl .nil) ?_
   refine .v (f_lenD (n := (a0.Lines).length) (by rfl) sl72 rfl (by simp)) rfl (.c rfl .nil) .nil ?_
   refine .v (f_binI (by rfl) rfl (by rfl)) rfl (.c rfl (.c rfl .nil)) .nil ?_
   refine .nil (aq_then ?_)
   refine aw_cond rfl (fun hc1 => ?_) (fun hc1 => ?_)
   · replace h := ite_t hc1 h
     refine aw_skip ?_
     refine aq_then ?_
     refine aw_seq ?_
     refine aw_block ?_
     refine aw_rd ?_
     refine .v (f_fieldAddr (n := 0) (by rfl) fl74_0 (by decide)) rfl (.c rfl .nil) .nil ?_
     refine .v (f_load (n := 0) (o := 3) (off := (0 + 0)) (p := [0]) (c := .st [.slc 1067 0 ((z0_1).length) 33]) (z := .slc 1067 0 ((z0_1).length) 33) (by rfl) rfl ty72 (by rfl)) rfl (.c rfl .nil) (.cons rfl .nil) ?_
     refine .v (f_fieldAddr (n := 0) (by rfl) fl74_0 (by decide)) rfl (.c rfl .nil) .nil ?_
     refine .v (f_load (n := 0) (o := 1) (off := (0 + 0)) (p := [0]) (c := .d (eGShard a0)) (z := .d (eL72 a0.Lines)) (by rfl) rfl ty72 (by rfl)) rfl (.c rfl .nil) (.cons rfl .nil) ?_
     refine .v (f_move (by rfl)) rfl (.c rfl .nil) .nil ?_
     obtain ⟨x2, hx3, h⟩ := bind_some h
     obtain ⟨hx4, hx3⟩ := rd_some hx3
     refine .v (f_indexS (by rfl) sl72 hx4 (rd_map _ hx3)) rfl (.c rfl (.c rfl .nil)) .nil ?_
     refine .v (f_loadR (z := (eGLine x2)) (by rfl) ty26) rfl (.c rfl .nil) .nil ?_
     obtain ⟨y5, hy6, h⟩ := bind_some h
     refine .v (f_callP hgl (by rfl) en40 rfl (by rfl) (by rfl) (by rfl) (F40_beadrollref19_Twin_ok hy6)) rfl (.c rfl .nil) .nil ?_
     refine .n (f_buildS (xs := [(0, .d (eGLine y5))]) (z := (.st [(eA22 (List.replicate 32 (0 : Int))), (.val (.slice none 0 0))])) (zs := (([y5] : List GLine)).map eGLine) 1070 (by rfl) el72 zel72 (by rfl) (by decide) (by decide) rfl (by rfl) ⟨_, _, _, rfl, pl72_0, rfl, rfl, trivial⟩ (by rfl)) rfl (.c rfl .nil) rfl ?_
     obtain ⟨hb7, h⟩ := ifp h
     refine .w (f_appendC (m := ((z0_1 ++ ([y5] : List GLine))).length) (ys := (([y5] : List GLine) : List GLine).map eGLine) (xs := (z0_1).map eGLine) (zs := ((z0_1 ++ ([y5] : List GLine))).map eGLine) 1071 (by rfl) el72 (by simp) (by simp) (by simp [List.map_drop]) (by simp) (Nat.le_trans (Nat.mul_le_mul_right _ hb7) (by decide)) (Nat.le_trans hb7 (by decide)) srcW) rfl (.c rfl (.c rfl .nil)) (.cons rfl (.cons rfl .nil)) (.cons rfl .nil) ?_
     refine .v (f_fieldAddr (n := 0) (by rfl) fl74_0 (by decide)) rfl (.c rfl .nil) .nil ?_
     refine .s (f_store (n := 0) (o := 3) (off := (0 + 0)) (p := [0]) (c := .st [.slc 1067 0 ((z0_1).length) 33]) (old := .slc 1067 0 ((z0_1).length) 33) (z := .slc 1071 0 (((z0_1 ++ ([y5] : List GLine))).length) 33) (c' := .st [.slc 1071 0 (((z0_1 ++ ([y5] : List GLine))).length) 33]) rfl rfl (by rfl) ty72 (by rfl)) rfl (.c rfl (.c rfl .nil)) (.cons rfl .nil) ?_
     refine .nil (by kernel_rfl) ?_
     refine aq_block ?_
     refine aq_then ?_
     refine aw_r ?_
     refine .mv rfl (by rfl) ?_
     refine .v (f_binI (by rfl) rfl (by rfl)) rfl (.c rfl (.c rfl .nil)) .nil ?_
     refine .as rfl (by rfl) ?_
     refine .nil ?_
     obtain rfl := Option.some.inj h
     refine aq_weak (s' := ⟨[(1, .ptr 1 0 []), (2, .ptr 2 0 []), (3, .ptr 3 0 []), (4, .d (.val (.int .i64 (IntKind.i64.wrap (z0_0 + (1 : Int))))))], [(1, .av (.d (eGShard a0))), (2, .av (.st [.d (.val (.slice none 0 0))])), (3, .av (.st [.slc 1067 0 (((z0_1 ++ ([y5] : List GLine))).length) 33])), (1067, .av (.d (.arr 33 (((z0_1 ++ ([y5] : List GLine))).length) (((z0_1 ++ ([y5] : List GLine))).map eGLine))))], []⟩) (fun i => (bif Nat.beq i 1067 then 1071 else i)) hb0 (.cons rfl (.cons rfl (.cons rfl (.cons rfl .nil)))) (.cons rfl (.cons rfl (.cons rfl (.cons rfl .nil)))) rfl (by rfl) ?_
     exact jq
   replace h := ite_f hc1 h
   refine aw_exit ?_
   refine aq_then_exit ?_
   obtain rfl := Option.some.inj h
   refine aq_weak (s' := ⟨[(2, .ptr 2 0 []), (3, .ptr 3 0 [])], [(2, .av (.st [.d (.val (.slice none 0 0))])), (3, .av (.st [.slc 1067 0 ((z0_1).length) 33])), (1067, .av (.d (.arr 33 ((z0_1).length) ((z0_1).map eGLine))))], []⟩) id hb0 (.keep rfl (.keep rfl .nil)) (.keep rfl (.keep rfl (.keep rfl .nil))) rfl (by rfl) ?_
   exact jq
 refine aq_block_exit ?_
 refine aq_then ?_
 refine aw_rs ?_
 refine .v (f_load (n := 0) (o := 3) (off := 0) (p := []) (c := .st [.slc 1067 0 ((o8).length) 33]) (z := .st [.slc 1067 0 ((o8).length) 33]) (by rfl) rfl ty74 (by rfl)) rfl (.c rfl .nil) (.cons rfl .nil) ?_
 refine .s (f_store (n := 0) (o := 2) (off := 0) (p := []) (c := .st [.d (.val (.slice none 0 0))]) (old := .st [.d (.val (.slice none 0 0))]) (z := .st [.slc 1067 0 ((o8).length) 33]) (c' := .st [.slc 1067 0 ((o8).length) 33]) rfl rfl (by rfl) ty74 (by rfl)) rfl (.c rfl (.c rfl .nil)) (.cons rfl .nil) ?_
 refine .nil (aq_then ?_)
 refine aw_ret ?_
 obtain rfl := Option.some.inj h
 refine aq_freezeH [(1067, (.arr 33 ((o8).length) ((o8).map eGLine)))] [(2, .ptr 2 0 [])] [(2, .av (.d (eGShard (⟨o8⟩ : GShard)))), (3, .av (.d (eGShard (⟨o8⟩ : GShard))))] (.cons rfl .nil) (.keep rfl .nil) (.cons rfl (by rfl) (.st (.cons (.whole (.head _)) .nil)) (.cons rfl (by rfl) (.st (.cons (.whole (.head _)) .nil)) .nil)) ?_
 exact aq_finp hb0 rfl (.cell rfl rfl ty74 (by rfl) .nil) (by rfl) rfl ⟨rfl, rfl⟩

/- 53: beadroll/shard.Count -/
def F53_shard_Count_s0 (a0 : GShard) (z0_0 : Int) (z0_1 : Int) : Option ((Int × Int) ⊕ (Int)) :=
  (if (decide (z0_1 < ((a0.Lines).length : Int))) = true then ((rd a0.Lines z0_1).bind fun (x2 : GLine) => some (.inl ((IntKind.i64.wrap (z0_0 + ((x2.Txs).length : Int))), (IntKind.i64.wrap (z0_1 + (1 : Int)))))) else some (.inr z0_0))
def F53_shard_Count (n : Nat) (a0 : GShard) : Option (Int) :=
  ((loopF (fun (z : Int × Int) => F53_shard_Count_s0 a0 z.1 z.2) n ((0 : Int), (0 : Int))).bind fun (o5 : Int) => some o5)
theorem F53_shard_Count_ok {n : Nat} {a0 : GShard} {r : Int} (h : F53_shard_Count n a0 = some r) :
    ACall Tryd.prog GS 53 [.d (eGShard a0)] [] (fun r' hp' => r' = .d (.val (.int .i64 r)) ∧ hp' = []) := by
 refine acall_of_body mixed Tryd.func53 rfl (by rfl) ?_
 intro C hro hgl hb0
 unfold F53_shard_Count at h
 refine aw_rs ?_
 refine .n (f_box 1 (by rfl) (by rfl)) rfl (.c rfl .nil) rfl ?_
 refine .as rfl (by rfl) ?_
 refine .nil (aq_then ?_)
 refine aw_seq ?_
 refine aw_rs ?_
 refine .v (f_fieldAddr (n := 0) (by rfl) fl74_0 (by decide)) rfl (.c rfl .nil) .nil ?_
 refine .v (f_load (n := 0) (o := 1) (off := (0 + 0)) (p := [0]) (c := .d (eGShard a0)) (z := .d (eL72 a0.Lines)) (by rfl) rfl ty72 (by rfl)) rfl (.c rfl .nil) (.cons rfl .nil) ?_
 refine .v (f_lenD (n := (a0.Lines).length) (by rfl) sl72 rfl (by simp)) rfl (.c rfl .nil) .nil ?_
 refine .mv rfl (by rfl) ?_
 refine .nil (aq_then ?_)
 refine aw_block ?_
 refine aw_weak (s' := ⟨[(2, .d (.val (.int .i64 (0 : Int)))), (6, .d (eL72 a0.Lines)), (7, .d (.val (.int .i64 ((a0.Lines).length : Int)))), (8, .d (.val (.int .i64 (0 : Int))))], [], []⟩) id hb0 (.keep rfl (.keep rfl (.keep rfl (.keep rfl .nil)))) .nil rfl (by rfl) ?_
 obtain ⟨o5, ho6, h⟩ := bind_some h
 refine aw_loopX (σ := Int × Int) (fun z => ⟨[(2, .d (.val (.int .i64 z.1))), (6, .d (eL72 a0.Lines)), (7, .d (.val (.int .i64 ((a0.Lines).length : Int)))), (8, .d (.val (.int .i64 z.2)))], [], []⟩) (fun _ => (.exit 0)) (fun (o5 : Int) => ⟨[(2, .d (.val (.int .i64 o5)))], [], []⟩) ho6 (fun _ => rfl) ?_ ?_
 · clear h ho6
   rintro ⟨z0_0, z0_1⟩ o h
   change F53_shard_Count_s0 a0 z0_0 z0_1 = some o at h
   unfold F53_shard_Count_s0 at h
   show AW _ _ _ ⟨[(2, .d (.val (.int .i64 z0_0))), (6, .d (eL72 a0.Lines)), (7, .d (.val (.int .i64 ((a0.Lines).length : Int)))), (8, .d (.val (.int .i64 z0_1)))], [], []⟩
   refine aw_rs ?_
   refine .v (f_binI (by rfl) rfl (by rfl)) rfl (.c rfl (.c rfl .nil)) .nil ?_
   refine .nil (aq_then ?_)
   refine aw_seq ?_
   refine aw_cond rfl (fun hc1 => ?_) (fun hc1 => ?_)
   · replace h := ite_t hc1 h
     refine aw_skip ?_
     refine aq_then ?_
     refine aw_seq ?_
     refine aw_block ?_
     refine aw_rs ?_
     obtain ⟨x2, hx3, h⟩ := bind_some h
     obtain ⟨hx4, hx3⟩ := rd_some hx3
     refine .v (f_indexS (by rfl) sl72 hx4 (rd_map _ hx3)) rfl (.c rfl (.c rfl .nil)) .nil ?_
     refine .v (f_loadR (z := (eGLine x2)) (by rfl) ty26) rfl (.c rfl .nil) .nil ?_
     refine .n (f_alloc 4 (by rfl) zrv26) rfl .nil rfl ?_
     refine .s (f_store (n := 0) (o := 4) (off := 0) (p := []) (c := .st [.d (eA22 (List.replicate 32 (0 : Int))), .d (.val (.slice none 0 0))]) (old := .st [.d (eA22 (List.replicate 32 (0 : Int))), .d (.val (.slice none 0 0))]) (z := .d (eGLine x2)) (c' := .d (eGLine x2)) rfl rfl (by rfl) ty26 (by rfl)) rfl (.c rfl (.c rfl .nil)) (.cons rfl .nil) ?_
     refine .nil (aq_then ?_)
     refine aw_r ?_
     refine .mv rfl (by rfl) ?_
     refine .v (f_fieldAddr (n := 32) (by rfl) fl26_1 (by decide)) rfl (.c rfl .nil) .nil ?_
     refine .v (f_load (n := 0) (o := 4) (off := (0 + 32)) (p := [1]) (c := .d (eGLine x2)) (z := .d (eL24 x2.Txs)) (by rfl) rfl ty24 (by rfl)) rfl (.c rfl .nil) (.cons rfl .nil) ?_
     refine .v (f_lenD (n := (x2.Txs).length) (by rfl) sl24 rfl (by simp)) rfl (.c rfl .nil) .nil ?_
     refine .v (f_binI (by rfl) rfl (by rfl)) rfl (.c rfl (.c rfl .nil)) .nil ?_
     refine .as rfl (by rfl) ?_
     refine .nil ?_
     refine aq_block ?_
     refine aq_then ?_
     refine aw_r ?_
     refine .v (f_binI (by rfl) rfl (by rfl)) rfl (.c rfl (.c rfl .nil)) .nil ?_
     refine .mv rfl (by rfl) ?_
     refine .nil ?_
     obtain rfl := Option.some.inj h
     refine aq_weak (s' := ⟨[(2, .d (.val (.int .i64 (IntKind.i64.wrap (z0_0 + ((x2.Txs).length : Int)))))), (6, .d (eL72 a0.Lines)), (7, .d (.val (.int .i64 ((a0.Lines).length : Int)))), (8, .d (.val (.int .i64 (IntKind.i64.wrap (z0_1 + (1 : Int))))))], [], []⟩) id hb0 (.keep rfl (.keep rfl (.keep rfl (.keep rfl .nil)))) .nil rfl (by rfl) ?_
     exact jq
   replace h := ite_f hc1 h
   refine aw_exit ?_
   refine aq_then_exit ?_
   obtain rfl := Option.some.inj h
   refine aq_weak (s' := ⟨[(2, .d (.val (.int .i64 z0_0)))], [], []⟩) id hb0 (.keep rfl .nil) .nil rfl (by rfl) ?_
   exact jq
 refine aq_block_exit ?_
 refine aq_then ?_
 refine aw_rs ?_
 refine .mv rfl (by rfl) ?_
 refine .as rfl (by rfl) ?_
 refine .nil (aq_then ?_)
 refine aw_ret ?_
 obtain rfl := Option.some.inj h
 exact aq_finp hb0 rfl (.tmp rfl (by rfl) .nil) (by rfl) rfl ⟨rfl, rfl⟩

/- 18: beadroll/queue.Check -/
def F18_queue_Check_s0 (n : Nat) (a0 : GLine) (z0_0 : Int) : Option ((Int) ⊕ ((Unit) ⊕ (Unit))) :=
  (if (decide (z0_0 < ((a0.Txs).length : Int))) = true then ((rd a0.Txs z0_0).bind fun (x3 : GTx) => ((((F77_queue_own n x3 a0.From).bind fun (y6 : Bool) => (if (!y6) = true then some true else (if (decide (z0_0 > (0 : Int))) = true then ((rd a0.Txs (IntKind.i64.wrap (z0_0 - (1 : Int)))).bind fun (x10 : GTx) => some (decide (x10.Nonce ≥ x3.Nonce))) else some false)))).bind fun (o13 : Bool) => (if o13 = true then some (.inr (.inr ())) else some (.inl (IntKind.i64.wrap (z0_0 + (1 : Int))))))) else some (.inr (.inl ())))
def F18_queue_Check (n : Nat) (a0 : GLine) : Option (Int) :=
  (if (decide (((a0.Txs).length : Int) > (256 : Int))) = true then some (8 : Int) else ((loopF (fun (z : Int) => F18_queue_Check_s0 n a0 z) n (0 : Int)).bind (Sum.elim (fun (j16 : Unit) => some (0 : Int)) (fun (j16 : Unit) => some (8 : Int)))))
theorem F18_queue_Check_ok {n : Nat} {a0 : GLine} {r : Int} (h : F18_queue_Check n a0 = some r) :
    ACall Tryd.prog GS 18 [.d (eGLine a0)] [] (fun r' hp' => r' = .d (.val (.int .i64 r)) ∧ hp' = []) := by
 refine acall_of_body mixed Tryd.func18 rfl (by rfl) ?_
 intro C hro hgl hb0
 unfold F18_queue_Check at h
 refine aw_rs ?_
 refine .n (f_box 1 (by rfl) (by rfl)) rfl (.c rfl .nil) rfl ?_
 refine .as rfl (by rfl) ?_
 refine .nil (aq_then ?_)
 refine aw_seq ?_
 refine aw_rs ?_
 refine .v (f_fieldAddr (n := 32) (by rfl) fl26_1 (by decide)) rfl (.c rfl .nil) .nil ?_
 refine .v (f_load (n := 0) (o := 1) (off := (0 + 32)) (p := [1]) (c := .d (eGLine a0)) (z := .d (eL24 a0.Txs)) (by rfl) rfl ty24 (by rfl)) rfl (.c rfl .nil) (.cons rfl .nil) ?_
 refine .v (f_lenD (n := (a0.Txs).length) (by rfl) sl24 rfl (by simp)) rfl (.c rfl .nil) .nil ?_
 refine .v (f_binI (by rfl) rfl (by rfl)) rfl (.c rfl (.c rfl .nil)) .nil ?_
 refine .nil (aq_then ?_)
 refine aw_cond rfl (fun hc1 => ?_) (fun hc1 => ?_)
 · replace h := ite_t hc1 h
   refine aw_rs ?_
   refine .as rfl (by rfl) ?_
   refine .nil (aq_then ?_)
   refine aw_ret ?_
   refine aq_then_ret ?_
   obtain rfl := Option.some.inj h
   exact aq_finp hb0 rfl (.tmp rfl (by rfl) .nil) (by rfl) rfl ⟨rfl, rfl⟩
 replace h := ite_f hc1 h
 refine aw_skip ?_
 refine aq_then ?_
 refine aw_seq ?_
 refine aw_rs ?_
 refine .v (f_fieldAddr (n := 32) (by rfl) fl26_1 (by decide)) rfl (.c rfl .nil) .nil ?_
 refine .v (f_load (n := 0) (o := 1) (off := (0 + 32)) (p := [1]) (c := .d (eGLine a0)) (z := .d (eL24 a0.Txs)) (by rfl) rfl ty24 (by rfl)) rfl (.c rfl .nil) (.cons rfl .nil) ?_
 refine .v (f_lenD (n := (a0.Txs).length) (by rfl) sl24 rfl (by simp)) rfl (.c rfl .nil) .nil ?_
 refine .mv rfl (by rfl) ?_
 refine .nil (aq_then ?_)
 refine aw_block ?_
 refine aw_weak (s' := ⟨[(1, .ptr 1 0 []), (10, .d (eL24 a0.Txs)), (11, .d (.val (.int .i64 ((a0.Txs).length : Int)))), (12, .d (.val (.int .i64 (0 : Int))))], [(1, .av (.d (eGLine a0)))], []⟩) id hb0 (.keep rfl (.keep rfl (.keep rfl (.keep rfl .nil)))) (.keep rfl .nil) rfl (by rfl) ?_
 obtain ⟨o16, ho17, h⟩ := bind_some h
 refine aw_loopX (σ := Int) (fun z => ⟨[(1, .ptr 1 0 []), (10, .d (eL24 a0.Txs)), (11, .d (.val (.int .i64 ((a0.Txs).length : Int)))), (12, .d (.val (.int .i64 z)))], [(1, .av (.d (eGLine a0)))], []⟩) (Sum.elim (fun _ => .exit 0) (fun _ => .ret)) (Sum.elim (fun j16 => ⟨[], [], []⟩) (fun j16 => ⟨[(2, .d (.val (.int .i64 (8 : Int))))], [], []⟩)) ho17 (by intro b; rcases b with _ | _ <;> rfl) ?_ ?_
 · clear h ho17
   intro z0_0 o h
   change F18_queue_Check_s0 n a0 z0_0 = some o at h
   unfold F18_queue_Check_s0 at h
   show AW _ _ _ ⟨[(1, .ptr 1 0 []), (10, .d (eL24 a0.Txs)), (11, .d (.val (.int .i64 ((a0.Txs).length : Int)))), (12, .d (.val (.int .i64 z0_0)))], [(1, .av (.d (eGLine a0)))], []⟩
   refine aw_rs ?_
   refine .v (f_binI (by rfl) rfl (by rfl)) rfl (.c rfl (.c rfl .nil)) .nil ?_
   refine .nil (aq_then ?_)
   refine aw_seq ?_
   refine aw_cond rfl (fun hc2 => ?_) (fun hc2 => ?_)
   · replace h := ite_t hc2 h
     refine aw_skip ?_
     refine aq_then ?_
     refine aw_seq ?_
     refine aw_block ?_
     refine aw_rs ?_
     refine .mv rfl (by rfl) ?_
     obtain ⟨x3, hx4, h⟩ := bind_some h
     obtain ⟨hx5, hx4⟩ := rd_some hx4
     refine .v (f_indexS (by rfl) sl24 hx5 (rd_map _ hx4)) rfl (.c rfl (.c rfl .nil)) .nil ?_
     refine .v (f_loadR (z := (eGTx x3)) (by rfl) ty36) rfl (.c rfl .nil) .nil ?_
     refine .n (f_alloc 4 (by rfl) zr36) rfl .nil rfl ?_
     refine .as rfl (by rfl) ?_
     refine .s (f_store (n := 0) (o := 4) (off := 0) (p := []) (c := .d (eGTx (⟨(List.replicate 32 (0 : Int)), (List.replicate 32 (0 : Int)), (0 : Int), (0 : Int), (0 : Int), (List.replicate 32 (0 : Int))⟩ : GTx))) (old := .d (eGTx (⟨(List.replicate 32 (0 : Int)), (List.replicate 32 (0 : Int)), (0 : Int), (0 : Int), (0 : Int), (List.replicate 32 (0 : Int))⟩ : GTx))) (z := .d (eGTx x3)) (c' := .d (eGTx x3)) rfl rfl (by rfl) ty36 (by rfl)) rfl (.c rfl (.c rfl .nil)) (.cons rfl .nil) ?_
     refine .nil (aq_then ?_)
     refine aw_seq ?_
     obtain ⟨o13, ho15, h⟩ := bind_some h
     refine aw_join (.normal) ⟨[(1, .ptr 1 0 []), (10, .d (eL24 a0.Txs)), (11, .d (.val (.int .i64 ((a0.Txs).length : Int)))), (12, .d (.val (.int .i64 z0_0))), (37, .d (.val (.bool o13)))], [(1, .av (.d (eGLine a0)))], []⟩ ?_ ?_
     · replace h := ho15
       refine aw_rd ?_
       refine .v (f_load (n := 0) (o := 4) (off := 0) (p := []) (c := .d (eGTx x3)) (z := .d (eGTx x3)) (by rfl) rfl ty36 (by rfl)) rfl (.c rfl .nil) (.cons rfl .nil) ?_
       refine .v (f_fieldAddr (n := 0) (by rfl) fl26_0 (by decide)) rfl (.c rfl .nil) .nil ?_
       refine .v (f_load (n := 0) (o := 1) (off := (0 + 0)) (p := [0]) (c := .d (eGLine a0)) (z := .d (eA22 a0.From)) (by rfl) rfl ty23 (by rfl)) rfl (.c rfl .nil) (.cons rfl .nil) ?_
       obtain ⟨y6, hy7, h⟩ := bind_some h
       refine .v (f_callP hgl (by rfl) en77 rfl (by rfl) (by rfl) (by rfl) (F77_queue_own_ok hy7)) rfl (.c rfl (.c rfl .nil)) .nil ?_
       refine .v (f_not (by rfl)) rfl (.c rfl .nil) .nil ?_
       refine .v (f_move (by rfl)) rfl (.c rfl .nil) .nil ?_
       rcases Bool.eq_false_or_eq_true (!y6) with hc8 | hc8
       · replace h := ite_t hc8 h
         refine .off rfl rfl rfl hc8 rfl (by rfl) ?_
         refine .off rfl rfl rfl hc8 rfl (by rfl) ?_
         refine .off rfl rfl rfl hc8 rfl (by rfl) ?_
         refine .offu rfl rfl rfl rfl (by rfl) ?_
         refine .offu rfl rfl rfl rfl (by rfl) ?_
         refine .offu rfl rfl rfl rfl (by rfl) ?_
         refine .offu rfl rfl rfl rfl (by rfl) ?_
         refine .offu rfl rfl rfl rfl (by rfl) ?_
         refine .offu rfl rfl rfl rfl (by rfl) ?_
         refine .offu rfl rfl rfl rfl (by rfl) ?_
         refine .offu rfl rfl rfl rfl (by rfl) ?_
         refine .offu rfl rfl rfl rfl (by rfl) ?_
         refine .offu rfl rfl rfl rfl (by rfl) ?_
         refine .off rfl rfl rfl hc8 rfl (by rfl) ?_
         refine .v (f_pick_true (by rfl) hc8) rfl (.c rfl (.c rfl .nil)) .nil ?_
         refine .nil (by kernel_rfl) ?_
         obtain rfl := Option.some.inj h
         refine aq_weak (s' := ⟨[(1, .ptr 1 0 []), (10, .d (eL24 a0.Txs)), (11, .d (.val (.int .i64 ((a0.Txs).length : Int)))), (12, .d (.val (.int .i64 z0_0))), (37, .d (.val (.bool true)))], [(1, .av (.d (eGLine a0)))], []⟩) id hb0 (.keep rfl (.keep rfl (.keep rfl (.keep rfl (.keep rfl .nil))))) (.keep rfl .nil) rfl (by rfl) ?_
         exact jq
       replace h := ite_f hc8 h
       refine .gv (f_move (by rfl)) rfl rfl rfl hc8 (.c rfl .nil) .nil ?_
       refine .gv (f_binI (by rfl) rfl (by rfl)) rfl rfl rfl hc8 (.c rfl (.c rfl .nil)) .nil ?_
       refine .gv (f_move (by rfl)) rfl rfl rfl hc8 (.c rfl .nil) .nil ?_
       rcases Bool.eq_false_or_eq_true (decide (z0_0 > (0 : Int))) with hc9 | hc9
       · replace h := ite_t hc9 h
         refine .gv (f_fieldAddr (n := 32) (by rfl) fl26_1 (by decide)) rfl rfl rfl hc9 (.c rfl .nil) .nil ?_
         refine .gv (f_load (n := 0) (o := 1) (off := (0 + 32)) (p := [1]) (c := .d (eGLine a0)) (z := .d (eL24 a0.Txs)) (by rfl) rfl ty24 (by rfl)) rfl rfl rfl hc9 (.c rfl .nil) (.cons rfl .nil) ?_
         refine .gv (f_move (by rfl)) rfl rfl rfl hc9 (.c rfl .nil) .nil ?_
         refine .gv (f_binI (by rfl) rfl (by rfl)) rfl rfl rfl hc9 (.c rfl (.c rfl .nil)) .nil ?_
         obtain ⟨x10, hx11, h⟩ := bind_some h
         obtain ⟨hx12, hx11⟩ := rd_some hx11
         refine .gv (f_indexS (by rfl) sl24 hx12 (rd_map _ hx11)) rfl rfl rfl hc9 (.c rfl (.c rfl .nil)) .nil ?_
         refine .gv (f_fieldAddrR (by rfl) fl36_2 (by decide) rfl) rfl rfl rfl hc9 (.c rfl .nil) .nil ?_
         refine .gv (f_loadR (z := (.val (.int .u64 x10.Nonce))) (by rfl) ty27) rfl rfl rfl hc9 (.c rfl .nil) .nil ?_
         refine .gv (f_fieldAddr (n := 64) (by rfl) fl36_2 (by decide)) rfl rfl rfl hc9 (.c rfl .nil) .nil ?_
         refine .gv (f_load (n := 0) (o := 4) (off := (0 + 64)) (p := [2]) (c := .d (eGTx x3)) (z := .d (.val (.int .u64 x3.Nonce))) (by rfl) rfl ty27 (by rfl)) rfl rfl rfl hc9 (.c rfl .nil) (.cons rfl .nil) ?_
         refine .gv (f_binI (by rfl) rfl (by rfl)) rfl rfl rfl hc9 (.c rfl (.c rfl .nil)) .nil ?_
         refine .gv (f_pick_true (by rfl) hc9) rfl rfl rfl hc8 (.c rfl (.c rfl .nil)) .nil ?_
         refine .v (f_pick_false (by rfl) hc8) rfl (.c rfl (.c rfl .nil)) .nil ?_
         refine .nil (by kernel_rfl) ?_
         obtain rfl := Option.some.inj h
         refine aq_weak (s' := ⟨[(1, .ptr 1 0 []), (10, .d (eL24 a0.Txs)), (11, .d (.val (.int .i64 ((a0.Txs).length : Int)))), (12, .d (.val (.int .i64 z0_0))), (37, .d (.val (.bool (decide (x10.Nonce ≥ x3.Nonce)))))], [(1, .av (.d (eGLine a0)))], []⟩) id hb0 (.keep rfl (.keep rfl (.keep rfl (.keep rfl (.keep rfl .nil))))) (.keep rfl .nil) rfl (by rfl) ?_
         exact jq
       replace h := ite_f hc9 h
       refine .off rfl rfl rfl hc9 rfl (by rfl) ?_
       refine .off rfl rfl rfl hc9 rfl (by rfl) ?_
       refine .off rfl rfl rfl hc9 rfl (by rfl) ?_
       refine .off rfl rfl rfl hc9 rfl (by rfl) ?_
       refine .off rfl rfl rfl hc9 rfl (by rfl) ?_
       refine .off rfl rfl rfl hc9 rfl (by rfl) ?_
       refine .off rfl rfl rfl hc9 rfl (by rfl) ?_
       refine .off rfl rfl rfl hc9 rfl (by rfl) ?_
       refine .off rfl rfl rfl hc9 rfl (by rfl) ?_
       refine .off rfl rfl rfl hc9 rfl (by rfl) ?_
       refine .gv (f_pick_false (by rfl) hc9) rfl rfl rfl hc8 (.c rfl (.c rfl .nil)) .nil ?_
       refine .v (f_pick_false (by rfl) hc8) rfl (.c rfl (.c rfl .nil)) .nil ?_
       refine .nil (by kernel_rfl) ?_
       obtain rfl := Option.some.inj h
       refine aq_weak (s' := ⟨[(1, .ptr 1 0 []), (10, .d (eL24 a0.Txs)), (11, .d (.val (.int .i64 ((a0.Txs).length : Int)))), (12, .d (.val (.int .i64 z0_0))), (37, .d (.val (.bool false)))], [(1, .av (.d (eGLine a0)))], []⟩) id hb0 (.keep rfl (.keep rfl (.keep rfl (.keep rfl (.keep rfl .nil))))) (.keep rfl .nil) rfl (by rfl) ?_
       exact jq
     refine aq_then ?_
     refine aw_cond rfl (fun hc14 => ?_) (fun hc14 => ?_)
     · replace h := ite_t hc14 h
       refine aw_rs ?_
       refine .as rfl (by rfl) ?_
       refine .nil (aq_then ?_)
       refine aw_ret ?_
       refine aq_block_ret ?_
       refine aq_then_ret ?_
       obtain rfl := Option.some.inj h
       refine aq_weak (s' := ⟨[(2, .d (.val (.int .i64 (8 : Int))))], [], []⟩) id hb0 (.keep rfl .nil) .nil rfl (by rfl) ?_
       exact jq
     replace h := ite_f hc14 h
     refine aw_skip ?_
     refine aq_block ?_
     refine aq_then ?_
     refine aw_r ?_
     refine .v (f_binI (by rfl) rfl (by rfl)) rfl (.c rfl (.c rfl .nil)) .nil ?_
     refine .mv rfl (by rfl) ?_
     refine .nil ?_
     obtain rfl := Option.some.inj h
     refine aq_weak (s' := ⟨[(1, .ptr 1 0 []), (10, .d (eL24 a0.Txs)), (11, .d (.val (.int .i64 ((a0.Txs).length : Int)))), (12, .d (.val (.int .i64 (IntKind.i64.wrap (z0_0 + (1 : Int))))))], [(1, .av (.d (eGLine a0)))], []⟩) id hb0 (.keep rfl (.keep rfl (.keep rfl (.keep rfl .nil)))) (.keep rfl .nil) rfl (by rfl) ?_
     exact jq
   replace h := ite_f hc2 h
   refine aw_exit ?_
   refine aq_then_exit ?_
   obtain rfl := Option.some.inj h
   refine aq_weak (s' := ⟨[], [], []⟩) id hb0 .nil .nil rfl (by rfl) ?_
   exact jq
 rcases o16 with j16 | j16
 · replace h := elim_l h
   refine aq_block_exit ?_
   refine aq_then ?_
   refine aw_rs ?_
   refine .as rfl (by rfl) ?_
   refine .nil (aq_then ?_)
   refine aw_ret ?_
   obtain rfl := Option.some.inj h
   exact aq_finp hb0 rfl (.tmp rfl (by rfl) .nil) (by rfl) rfl ⟨rfl, rfl⟩
 replace h := elim_r h
 refine aq_block_ret ?_
 refine aq_then_ret ?_
 obtain rfl := Option.some.inj h
 exact aq_finp hb0 rfl (.tmp rfl (by rfl) .nil) (by rfl) rfl ⟨rfl, rfl⟩

/- 49: beadroll/beadrollref20.Great -/
def F49_beadrollref20_Great_s0 (a0 : GShard) (z0_0 : Int) (z0_1 : Int) : Option ((Int × Int) ⊕ (Int)) :=
  (((if (decide (z0_1 < ((a0.Lines).length : Int))) = true then some (decide (z0_1 < (20 : Int))) else some false)).bind fun (o2 : Bool) => (if o2 = true then ((rd a0.Lines z0_1).bind fun (x4 : GLine) => some (.inl ((IntKind.i64.wrap (z0_0 + (if (100 : Int) < ((x4.Txs).length : Int) then (100 : Int) else ((x4.Txs).length : Int)))), (IntKind.i64.wrap (z0_1 + (1 : Int)))))) else some (.inr z0_0)))
def F49_beadrollref20_Great (n : Nat) (a0 : GShard) : Option (Bool) :=
  ((loopF (fun (z : Int × Int) => F49_beadrollref20_Great_s0 a0 z.1 z.2) n ((0 : Int), (0 : Int))).bind fun (o8 : Int) => (((if (decide (((a0.Lines).length : Int) > (6 : Int))) = true then some true else some (decide (o8 > (20 : Int))))).bind fun (o11 : Bool) => some o11))
theorem F49_beadrollref20_Great_ok {n : Nat} {a0 : GShard} {r : Bool} (h : F49_beadrollref20_Great n a0 = some r) :
    ACall Tryd.prog GS 49 [.d (eGShard a0)] [] (fun r' hp' => r' = .d (.val (.bool r)) ∧ hp' = []) := by
 refine acall_of_body mixed Tryd.func49 rfl (by rfl) ?_
 intro C hro hgl hb0
 unfold F49_beadrollref20_Great at h
 refine aw_rs ?_
 refine .n (f_box 1 (by rfl) (by rfl)) rfl (.c rfl .nil) rfl ?_
 refine .as rfl (by rfl) ?_
 refine .nil (aq_then ?_)
 refine aw_rs ?_
 refine .as rfl (by rfl) ?_
 refine .nil (aq_then ?_)
 refine aw_seq ?_
 refine aw_rs ?_
 refine .as rfl (by rfl) ?_
 refine .nil (aq_then ?_)
 refine aw_block ?_
 refine aw_weak (s' := ⟨[(1, .ptr 1 0 []), (3, .d (.val (.int .i64 (0 : Int)))), (4, .d (.val (.int .i64 (0 : Int))))], [(1, .av (.d (eGShard a0)))], []⟩) id hb0 (.keep rfl (.keep rfl (.keep rfl .nil))) (.keep rfl .nil) rfl (by rfl) ?_
 obtain ⟨o8, ho9, h⟩ := bind_some h
 refine aw_loopX (σ := Int × Int) (fun z => ⟨[(1, .ptr 1 0 []), (3, .d (.val (.int .i64 z.1))), (4, .d (.val (.int .i64 z.2)))], [(1, .av (.d (eGShard a0)))], []⟩) (fun _ => (.exit 0)) (fun (o8 : Int) => ⟨[(1, .ptr 1 0 []), (3, .d (.val (.int .i64 o8)))], [(1, .av (.d (eGShard a0)))], []⟩) ho9 (fun _ => rfl) ?_ ?_
 · clear h ho9
   rintro ⟨z0_0, z0_1⟩ o h
   change F49_beadrollref20_Great_s0 a0 z0_0 z0_1 = some o at h
   unfold F49_beadrollref20_Great_s0 at h
   show AW _ _ _ ⟨[(1, .ptr 1 0 []), (3, .d (.val (.int .i64 z0_0))), (4, .d (.val (.int .i64 z0_1)))], [(1, .av (.d (eGShard a0)))], []⟩
   refine aw_seq ?_
   refine aw_seq ?_
   obtain ⟨o2, ho7, h⟩ := bind_some h
   refine aw_join (.normal) ⟨[(1, .ptr 1 0 []), (3, .d (.val (.int .i64 z0_0))), (4, .d (.val (.int .i64 z0_1))), (13, .d (.val (.bool o2)))], [(1, .av (.d (eGShard a0)))], []⟩ ?_ ?_
   · replace h := ho7
     refine aw_r ?_
     refine .mv rfl (by rfl) ?_
     refine .v (f_fieldAddr (n := 0) (by rfl) fl74_0 (by decide)) rfl (.c rfl .nil) .nil ?_
     refine .v (f_load (n := 0) (o := 1) (off := (0 + 0)) (p := [0]) (c := .d (eGShard a0)) (z := .d (eL72 a0.Lines)) (by rfl) rfl ty72 (by rfl)) rfl (.c rfl .nil) (.cons rfl .nil) ?_
     refine .v (f_lenD (n := (a0.Lines).length) (by rfl) sl72 rfl (by simp)) rfl (.c rfl .nil) .nil ?_
     refine .v (f_binI (by rfl) rfl (by rfl)) rfl (.c rfl (.c rfl .nil)) .nil ?_
     refine .mv rfl (by rfl) ?_
     rcases Bool.eq_false_or_eq_true (decide (z0_1 < ((a0.Lines).length : Int))) with hc1 | hc1
     · replace h := ite_t hc1 h
       refine .gv (f_move (by rfl)) rfl rfl rfl hc1 (.c rfl .nil) .nil ?_
       refine .gv (f_binI (by rfl) rfl (by rfl)) rfl rfl rfl hc1 (.c rfl (.c rfl .nil)) .nil ?_
       refine .v (f_pick_true (by rfl) hc1) rfl (.c rfl (.c rfl .nil)) .nil ?_
       refine .nil ?_
       obtain rfl := Option.some.inj h
       refine aq_weak (s' := ⟨[(1, .ptr 1 0 []), (3, .d (.val (.int .i64 z0_0))), (4, .d (.val (.int .i64 z0_1))), (13, .d (.val (.bool (decide (z0_1 < (20 : Int))))))], [(1, .av (.d (eGShard a0)))], []⟩) id hb0 (.keep rfl (.keep rfl (.keep rfl (.keep rfl .nil)))) (.keep rfl .nil) rfl (by rfl) ?_
       exact jq
     replace h := ite_f hc1 h
     refine .off rfl rfl rfl hc1 rfl (by rfl) ?_
     refine .off rfl rfl rfl hc1 rfl (by rfl) ?_
     refine .v (f_pick_false (by rfl) hc1) rfl (.c rfl (.c rfl .nil)) .nil ?_
     refine .nil ?_
     obtain rfl := Option.some.inj h
     refine aq_weak (s' := ⟨[(1, .ptr 1 0 []), (3, .d (.val (.int .i64 z0_0))), (4, .d (.val (.int .i64 z0_1))), (13, .d (.val (.bool false)))], [(1, .av (.d (eGShard a0)))], []⟩) id hb0 (.keep rfl (.keep rfl (.keep rfl (.keep rfl .nil)))) (.keep rfl .nil) rfl (by rfl) ?_
     exact jq
   refine aq_then ?_
   refine aw_cond rfl (fun hc3 => ?_) (fun hc3 => ?_)
   · replace h := ite_t hc3 h
     refine aw_skip ?_
     refine aq_then ?_
     refine aw_seq ?_
     refine aw_block ?_
     refine aw_r ?_
     refine .mv rfl (by rfl) ?_
     refine .v (f_fieldAddr (n := 0) (by rfl) fl74_0 (by decide)) rfl (.c rfl .nil) .nil ?_
     refine .v (f_load (n := 0) (o := 1) (off := (0 + 0)) (p := [0]) (c := .d (eGShard a0)) (z := .d (eL72 a0.Lines)) (by rfl) rfl ty72 (by rfl)) rfl (.c rfl .nil) (.cons rfl .nil) ?_
     refine .mv rfl (by rfl) ?_
     obtain ⟨x4, hx5, h⟩ := bind_some h
     obtain ⟨hx6, hx5⟩ := rd_some hx5
     refine .v (f_indexS (by rfl) sl72 hx6 (rd_map _ hx5)) rfl (.c rfl (.c rfl .nil)) .nil ?_
     refine .v (f_fieldAddrR (by rfl) fl26_1 (by decide) rfl) rfl (.c rfl .nil) .nil ?_
     refine .v (f_loadR (z := (eL24 x4.Txs)) (by rfl) ty24) rfl (.c rfl .nil) .nil ?_
     refine .v (f_lenD (n := (x4.Txs).length) (by rfl) sl24 rfl (by simp)) rfl (.c rfl .nil) .nil ?_
     refine .v (f_minI (by rfl)) rfl (.c rfl (.c rfl .nil)) .nil ?_
     refine .v (f_binI (by rfl) rfl (by rfl)) rfl (.c rfl (.c rfl .nil)) .nil ?_
     refine .as rfl (by rfl) ?_
     refine .nil ?_
     refine aq_block ?_
     refine aq_then ?_
     refine aw_r ?_
     refine .mv rfl (by rfl) ?_
     refine .v (f_binI (by rfl) rfl (by rfl)) rfl (.c rfl (.c rfl .nil)) .nil ?_
     refine .as rfl (by rfl) ?_
     refine .nil ?_
     obtain rfl := Option.some.inj h
     refine aq_weak (s' := ⟨[(1, .ptr 1 0 []), (3, .d (.val (.int .i64 (IntKind.i64.wrap (z0_0 + (if (100 : Int) < ((x4.Txs).length : Int) then (100 : Int) else ((x4.Txs).length : Int))))))), (4, .d (.val (.int .i64 (IntKind.i64.wrap (z0_1 + (1 : Int))))))], [(1, .av (.d (eGShard a0)))], []⟩) id hb0 (.keep rfl (.keep rfl (.keep rfl .nil))) (.keep rfl .nil) rfl (by rfl) ?_
     exact jq
   replace h := ite_f hc3 h
   refine aw_exit ?_
   refine aq_then_exit ?_
   obtain rfl := Option.some.inj h
   refine aq_weak (s' := ⟨[(1, .ptr 1 0 []), (3, .d (.val (.int .i64 z0_0)))], [(1, .av (.d (eGShard a0)))], []⟩) id hb0 (.keep rfl (.keep rfl .nil)) (.keep rfl .nil) rfl (by rfl) ?_
   exact jq
 refine aq_block_exit ?_
 refine aq_then ?_
 refine aw_seq ?_
 obtain ⟨o11, ho12, h⟩ := bind_some h
 refine aw_join (.normal) ⟨[(2, .d (.val (.bool o11)))], [], []⟩ ?_ ?_
 · replace h := ho12
   refine aw_r ?_
   refine .v (f_fieldAddr (n := 0) (by rfl) fl74_0 (by decide)) rfl (.c rfl .nil) .nil ?_
   refine .v (f_load (n := 0) (o := 1) (off := (0 + 0)) (p := [0]) (c := .d (eGShard a0)) (z := .d (eL72 a0.Lines)) (by rfl) rfl ty72 (by rfl)) rfl (.c rfl .nil) (.cons rfl .nil) ?_
   refine .v (f_lenD (n := (a0.Lines).length) (by rfl) sl72 rfl (by simp)) rfl (.c rfl .nil) .nil ?_
   refine .v (f_binI (by rfl) rfl (by rfl)) rfl (.c rfl (.c rfl .nil)) .nil ?_
   refine .mv rfl (by rfl) ?_
   rcases Bool.eq_false_or_eq_true (decide (((a0.Lines).length : Int) > (6 : Int))) with hc10 | hc10
   · replace h := ite_t hc10 h
     refine .off rfl rfl rfl hc10 rfl (by rfl) ?_
     refine .off rfl rfl rfl hc10 rfl (by rfl) ?_
     refine .v (f_pick_true (by rfl) hc10) rfl (.c rfl (.c rfl .nil)) .nil ?_
     refine .as rfl (by rfl) ?_
     refine .nil ?_
     obtain rfl := Option.some.inj h
     refine aq_weak (s' := ⟨[(2, .d (.val (.bool true)))], [], []⟩) id hb0 (.keep rfl .nil) .nil rfl (by rfl) ?_
     exact jq
   replace h := ite_f hc10 h
   refine .gv (f_move (by rfl)) rfl rfl rfl hc10 (.c rfl .nil) .nil ?_
   refine .gv (f_binI (by rfl) rfl (by rfl)) rfl rfl rfl hc10 (.c rfl (.c rfl .nil)) .nil ?_
   refine .v (f_pick_false (by rfl) hc10) rfl (.c rfl (.c rfl .nil)) .nil ?_
   refine .as rfl (by rfl) ?_
   refine .nil ?_
   obtain rfl := Option.some.inj h
   refine aq_weak (s' := ⟨[(2, .d (.val (.bool (decide (o8 > (20 : Int))))))], [], []⟩) id hb0 (.keep rfl .nil) .nil rfl (by rfl) ?_
   exact jq
 refine aq_then ?_
 refine aw_ret ?_
 obtain rfl := Option.some.inj h
 exact aq_finp hb0 rfl (.tmp rfl (by rfl) .nil) (by rfl) rfl ⟨rfl, rfl⟩

/- 82: slices.EqualFunc[[]beadroll/api.Shard,[]beadroll/api.Shard,beadroll/api.Shard,beadroll/api.Shard] -/
def F82_api_Shard_eed_s0 (n : Nat) (a0 : (List GShard)) (a1 : (List GShard)) (z0_0 : Int) : Option ((Int) ⊕ ((Unit) ⊕ (Unit))) :=
  (if (decide (z0_0 < ((a0).length : Int))) = true then ((rd a0 z0_0).bind fun (x3 : GShard) => ((rd a1 z0_0).bind fun (x6 : GShard) => ((F59_shard_Same n x3 x6).bind fun (y9 : Bool) => (if (!y9) = true then some (.inr (.inr ())) else some (.inl (IntKind.i64.wrap (z0_0 + (1 : Int)))))))) else some (.inr (.inl ())))
def F82_api_Shard_eed (n : Nat) (a0 : (List GShard)) (a1 : (List GShard)) : Option (Bool) :=
  (if (((a0).length : Int) != ((a1).length : Int)) = true then some false else ((loopF (fun (z : Int) => F82_api_Shard_eed_s0 n a0 a1 z) n (0 : Int)).bind (Sum.elim (fun (j12 : Unit) => some true) (fun (j12 : Unit) => some false))))
theorem F82_api_Shard_eed_ok {n : Nat} {a0 : (List GShard)} {a1 : (List GShard)} {r : Bool} (h : F82_api_Shard_eed n a0 a1 = some r) :
    ACall Tryd.prog GS 82 [.d (eL41 a0), .d (eL41 a1), .fn (.func 59) [] []] [] (fun r' hp' => r' = .d (.val (.bool r)) ∧ hp' = []) := by
 refine acall_of_body mixed Tryd.func82 rfl (by rfl) ?_
 intro C hro hgl hb0
 unfold F82_api_Shard_eed at h
 refine aw_rs ?_
 refine .as rfl (by rfl) ?_
 refine .nil (aq_then ?_)
 refine aw_seq ?_
 refine aw_rs ?_
 refine .mv rfl (by rfl) ?_
 refine .v (f_lenD (n := (a0).length) (by rfl) sl41 rfl (by simp)) rfl (.c rfl .nil) .nil ?_
 refine .mv rfl (by rfl) ?_
 refine .v (f_lenD (n := (a1).length) (by rfl) sl41 rfl (by simp)) rfl (.c rfl .nil) .nil ?_
 refine .v (f_binI (by rfl) rfl (by rfl)) rfl (.c rfl (.c rfl .nil)) .nil ?_
 refine .nil (aq_then ?_)
 refine aw_cond rfl (fun hc1 => ?_) (fun hc1 => ?_)
 · replace h := ite_t hc1 h
   refine aw_rs ?_
   refine .as rfl (by rfl) ?_
   refine .nil (aq_then ?_)
   refine aw_ret ?_
   refine aq_then_ret ?_
   obtain rfl := Option.some.inj h
   exact aq_finp hb0 rfl (.tmp rfl (by rfl) .nil) (by rfl) rfl ⟨rfl, rfl⟩
 replace h := ite_f hc1 h
 refine aw_skip ?_
 refine aq_then ?_
 refine aw_seq ?_
 refine aw_rs ?_
 refine .mv rfl (by rfl) ?_
 refine .v (f_lenD (n := (a0).length) (by rfl) sl41 rfl (by simp)) rfl (.c rfl .nil) .nil ?_
 refine .mv rfl (by rfl) ?_
 refine .nil (aq_then ?_)
 refine aw_block ?_
 refine aw_weak (s' := ⟨[(1, .d (eL41 a1)), (2, .fn (.func 59) [] []), (15, .d (eL41 a0)), (16, .d (.val (.int .i64 ((a0).length : Int)))), (17, .d (.val (.int .i64 (0 : Int))))], [], []⟩) id hb0 (.keep rfl (.keep rfl (.keep rfl (.keep rfl (.keep rfl .nil))))) .nil rfl (by rfl) ?_
 obtain ⟨o12, ho13, h⟩ := bind_some h
 refine aw_loopX (σ := Int) (fun z => ⟨[(1, .d (eL41 a1)), (2, .fn (.func 59) [] []), (15, .d (eL41 a0)), (16, .d (.val (.int .i64 ((a0).length : Int)))), (17, .d (.val (.int .i64 z)))], [], []⟩) (Sum.elim (fun _ => .exit 0) (fun _ => .ret)) (Sum.elim (fun j12 => ⟨[], [], []⟩) (fun j12 => ⟨[(6, .d (.val (.bool false)))], [], []⟩)) ho13 (by intro b; rcases b with _ | _ <;> rfl) ?_ ?_
 · clear h ho13
   intro z0_0 o h
   change F82_api_Shard_eed_s0 n a0 a1 z0_0 = some o at h
   unfold F82_api_Shard_eed_s0 at h
   show AW _ _ _ ⟨[(1, .d (eL41 a1)), (2, .fn (.func 59) [] []), (15, .d (eL41 a0)), (16, .d (.val (.int .i64 ((a0).length : Int)))), (17, .d (.val (.int .i64 z0_0)))], [], []⟩
   refine aw_rs ?_
   refine .v (f_binI (by rfl) rfl (by rfl)) rfl (.c rfl (.c rfl .nil)) .nil ?_
   refine .nil (aq_then ?_)
   refine aw_seq ?_
   refine aw_cond rfl (fun hc2 => ?_) (fun hc2 => ?_)
   · replace h := ite_t hc2 h
     refine aw_skip ?_
     refine aq_then ?_
     refine aw_seq ?_
     refine aw_block ?_
     refine aw_rs ?_
     refine .mv rfl (by rfl) ?_
     obtain ⟨x3, hx4, h⟩ := bind_some h
     obtain ⟨hx5, hx4⟩ := rd_some hx4
     refine .v (f_indexS (by rfl) sl41 hx5 (rd_map _ hx4)) rfl (.c rfl (.c rfl .nil)) .nil ?_
     refine .v (f_loadR (z := (eGShard x3)) (by rfl) ty74) rfl (.c rfl .nil) .nil ?_
     refine .n (f_alloc 8 (by rfl) zrv74) rfl .nil rfl ?_
     refine .as rfl (by rfl) ?_
     refine .s (f_store (n := 0) (o := 8) (off := 0) (p := []) (c := .st [.d (.val (.slice none 0 0))]) (old := .st [.d (.val (.slice none 0 0))]) (z := .d (eGShard x3)) (c' := .d (eGShard x3)) rfl rfl (by rfl) ty74 (by rfl)) rfl (.c rfl (.c rfl .nil)) (.cons rfl .nil) ?_
     refine .nil (aq_then ?_)
     refine aw_rs ?_
     refine .mv rfl (by rfl) ?_
     refine .mv rfl (by rfl) ?_
     obtain ⟨x6, hx7, h⟩ := bind_some h
     obtain ⟨hx8, hx7⟩ := rd_some hx7
     refine .v (f_indexS (by rfl) sl41 hx8 (rd_map _ hx7)) rfl (.c rfl (.c rfl .nil)) .nil ?_
     refine .v (f_loadR (z := (eGShard x6)) (by rfl) ty74) rfl (.c rfl .nil) .nil ?_
     refine .n (f_alloc 9 (by rfl) zrv74) rfl .nil rfl ?_
     refine .s (f_store (n := 0) (o := 9) (off := 0) (p := []) (c := .st [.d (.val (.slice none 0 0))]) (old := .st [.d (.val (.slice none 0 0))]) (z := .d (eGShard x6)) (c' := .d (eGShard x6)) rfl rfl (by rfl) ty74 (by rfl)) rfl (.c rfl (.c rfl .nil)) (.cons rfl .nil) ?_
     refine .nil (aq_then ?_)
     refine aw_rs ?_
     refine .mv rfl (by rfl) ?_
     refine .v (f_load (n := 0) (o := 8) (off := 0) (p := []) (c := .d (eGShard x3)) (z := .d (eGShard x3)) (by rfl) rfl ty74 (by rfl)) rfl (.c rfl .nil) (.cons rfl .nil) ?_
     refine .v (f_load (n := 0) (o := 9) (off := 0) (p := []) (c := .d (eGShard x6)) (z := .d (eGShard x6)) (by rfl) rfl ty74 (by rfl)) rfl (.c rfl .nil) (.cons rfl .nil) ?_
     obtain ⟨y9, hy10, h⟩ := bind_some h
     refine .w (f_callG0 (xs := [.d (eGShard x3), .d (eGShard x6)]) (r := .d (.val (.bool y9))) (fun i => i) [] hgl (by rfl) (cal_v (first := []) (caps := []) en59) rfl (by rfl) (by rfl) (by rfl) (by rfl) (.cons (.same _) (.cons (.same _) .nil)) rfl rfl (F59_shard_Same_ok hy10)) rfl (.c rfl (.c rfl (.c rfl .nil))) .nil .nil ?_
     refine .v (f_not (by rfl)) rfl (.c rfl .nil) .nil ?_
     refine .nil (aq_then ?_)
     refine aw_cond rfl (fun hc11 => ?_) (fun hc11 => ?_)
     · replace h := ite_t hc11 h
       refine aw_rs ?_
       refine .as rfl (by rfl) ?_
       refine .nil (aq_then ?_)
       refine aw_ret ?_
       refine aq_block_ret ?_
       refine aq_then_ret ?_
       obtain rfl := Option.some.inj h
       refine aq_weak (s' := ⟨[(6, .d (.val (.bool false)))], [], []⟩) id hb0 (.keep rfl .nil) .nil rfl (by rfl) ?_
       exact jq
     replace h := ite_f hc11 h
     refine aw_skip ?_
     refine aq_block ?_
     refine aq_then ?_
     refine aw_r ?_
     refine .v (f_binI (by rfl) rfl (by rfl)) rfl (.c rfl (.c rfl .nil)) .nil ?_
     refine .mv rfl (by rfl) ?_
     refine .nil ?_
     obtain rfl := Option.some.inj h
     refine aq_weak (s' := ⟨[(1, .d (eL41 a1)), (2, .fn (.func 59) [] []), (15, .d (eL41 a0)), (16, .d (.val (.int .i64 ((a0).length : Int)))), (17, .d (.val (.int .i64 (IntKind.i64.wrap (z0_0 + (1 : Int))))))], [], []⟩) id hb0 (.keep rfl (.keep rfl (.keep rfl (.keep rfl (.keep rfl .nil))))) .nil rfl (by rfl) ?_
     exact jq
   replace h := ite_f hc2 h
   refine aw_exit ?_
   refine aq_then_exit ?_
   obtain rfl := Option.some.inj h
   refine aq_weak (s' := ⟨[], [], []⟩) id hb0 .nil .nil rfl (by rfl) ?_
   exact jq
 rcases o12 with j12 | j12
 · replace h := elim_l h
   refine aq_block_exit ?_
   refine aq_then ?_
   refine aw_rs ?_
   refine .as rfl (by rfl) ?_
   refine .nil (aq_then ?_)
   refine aw_ret ?_
   obtain rfl := Option.some.inj h
   exact aq_finp hb0 rfl (.tmp rfl (by rfl) .nil) (by rfl) rfl ⟨rfl, rfl⟩
 replace h := elim_r h
 refine aq_block_ret ?_
 refine aq_then_ret ?_
 obtain rfl := Option.some.inj h
 exact aq_finp hb0 rfl (.tmp rfl (by rfl) .nil) (by rfl) rfl ⟨rfl, rfl⟩

/- 32: beadroll/pool.Same -/
def F32_pool_Same (n : Nat) (a0 : (List GShard)) (a1 : (List GShard)) : Option (Bool) :=
  ((F82_api_Shard_eed n a0 a1).bind fun (y1 : Bool) => some y1)
theorem F32_pool_Same_ok {n : Nat} {a0 : (List GShard)} {a1 : (List GShard)} {r : Bool} (h : F32_pool_Same n a0 a1 = some r) :
    ACall Tryd.prog GS 32 [.d (eL41 a0), .d (eL41 a1)] [] (fun r' hp' => r' = .d (.val (.bool r)) ∧ hp' = []) := by
 refine acall_of_body mixed Tryd.func32 rfl (by rfl) ?_
 intro C hro hgl hb0
 unfold F32_pool_Same at h
 refine aw_rs ?_
 refine .as rfl (by rfl) ?_
 refine .nil (aq_then ?_)
 refine aw_rs ?_
 refine .mv rfl (by rfl) ?_
 refine .mv rfl (by rfl) ?_
 obtain ⟨y1, hy2, h⟩ := bind_some h
 refine .v (f_callP hgl (by rfl) en82 rfl (by rfl) (by rfl) (by rfl) (F82_api_Shard_eed_ok hy2)) rfl (.c rfl (.c rfl (.c rfl .nil))) .nil ?_
 refine .as rfl (by rfl) ?_
 refine .nil (aq_then ?_)
 refine aw_ret ?_
 obtain rfl := Option.some.inj h
 exact aq_finp hb0 rfl (.tmp rfl (by rfl) .nil) (by rfl) rfl ⟨rfl, rfl⟩

/- 31: beadroll/beadrollref21.Count -/
def F31_beadrollref21_Count_s0 (n : Nat) (a0 : (List GShard)) (z0_0 : Int) (z0_1 : Int) : Option ((Int × Int) ⊕ (Int)) :=
  (if (decide (z0_1 < ((a0).length : Int))) = true then ((rd a0 z0_1).bind fun (x2 : GShard) => ((F58_beadrollref20_Count n x2).bind fun (y5 : Int) => some (.inl ((IntKind.i64.wrap (z0_0 + y5)), (IntKind.i64.wrap (z0_1 + (1 : Int))))))) else some (.inr z0_0))
def F31_beadrollref21_Count (n : Nat) (a0 : (List GShard)) : Option (Int) :=
  ((loopF (fun (z : Int × Int) => F31_beadrollref21_Count_s0 n a0 z.1 z.2) n ((0 : Int), (0 : Int))).bind fun (o7 : Int) => some o7)
theorem F31_beadrollref21_Count_ok {n : Nat} {a0 : (List GShard)} {r : Int} (h : F31_beadrollref21_Count n a0 = some r) :
    ACall Tryd.prog GS 31 [.d (eL41 a0)] [] (fun r' hp' => r' = .d (.val (.int .i64 r)) ∧ hp' = []) := by
 refine acall_of_body mixed Tryd.func31 rfl (by rfl) ?_
 intro C hro hgl hb0
 unfold F31_beadrollref21_Count at h
 refine aw_rs ?_
 refine .as rfl (by rfl) ?_
 refine .nil (aq_then ?_)
 refine aw_rs ?_
 refine .as rfl (by rfl) ?_
 refine .nil (aq_then ?_)
 refine aw_seq ?_
 refine aw_rs ?_
 refine .as rfl (by rfl) ?_
 refine .nil (aq_then ?_)
 refine aw_block ?_
 refine aw_weak (s' := ⟨[(0, .d (eL41 a0)), (3, .d (.val (.int .i64 (0 : Int)))), (4, .d (.val (.int .i64 (0 : Int))))], [], []⟩) id hb0 (.keep rfl (.keep rfl (.keep rfl .nil))) .nil rfl (by rfl) ?_
 obtain ⟨o7, ho8, h⟩ := bind_some h
 refine aw_loopX (σ := Int × Int) (fun z => ⟨[(0, .d (eL41 a0)), (3, .d (.val (.int .i64 z.1))), (4, .d (.val (.int .i64 z.2)))], [], []⟩) (fun _ => (.exit 0)) (fun (o7 : Int) => ⟨[(3, .d (.val (.int .i64 o7)))], [], []⟩) ho8 (fun _ => rfl) ?_ ?_
 · clear h ho8
   rintro ⟨z0_0, z0_1⟩ o h
   change F31_beadrollref21_Count_s0 n a0 z0_0 z0_1 = some o at h
   unfold F31_beadrollref21_Count_s0 at h
   show AW _ _ _ ⟨[(0, .d (eL41 a0)), (3, .d (.val (.int .i64 z0_0))), (4, .d (.val (.int .i64 z0_1)))], [], []⟩
   refine aw_seq ?_
   refine aw_rs ?_
   refine .mv rfl (by rfl) ?_
   refine .mv rfl (by rfl) ?_
   refine .v (f_lenD (n := (a0).length) (by rfl) sl41 rfl (by simp)) rfl (.c rfl .nil) .nil ?_
   refine .v (f_binI (by rfl) rfl (by rfl)) rfl (.c rfl (.c rfl .nil)) .nil ?_
   refine .nil (aq_then ?_)
   refine aw_cond rfl (fun hc1 => ?_) (fun hc1 => ?_)
   · replace h := ite_t hc1 h
     refine aw_skip ?_
     refine aq_then ?_
     refine aw_seq ?_
     refine aw_block ?_
     refine aw_r ?_
     refine .mv rfl (by rfl) ?_
     refine .mv rfl (by rfl) ?_
     refine .mv rfl (by rfl) ?_
     obtain ⟨x2, hx3, h⟩ := bind_some h
     obtain ⟨hx4, hx3⟩ := rd_some hx3
     refine .v (f_indexS (by rfl) sl41 hx4 (rd_map _ hx3)) rfl (.c rfl (.c rfl .nil)) .nil ?_
     refine .v (f_loadR (z := (eGShard x2)) (by rfl) ty74) rfl (.c rfl .nil) .nil ?_
     obtain ⟨y5, hy6, h⟩ := bind_some h
     refine .v (f_callP hgl (by rfl) en58 rfl (by rfl) (by rfl) (by rfl) (F58_beadrollref20_Count_ok hy6)) rfl (.c rfl .nil) .nil ?_
     refine .v (f_binI (by rfl) rfl (by rfl)) rfl (.c rfl (.c rfl .nil)) .nil ?_
     refine .as rfl (by rfl) ?_
     refine .nil ?_
     refine aq_block ?_
     refine aq_then ?_
     refine aw_r ?_
     refine .mv rfl (by rfl) ?_
     refine .v (f_binI (by rfl) rfl (by rfl)) rfl (.c rfl (.c rfl .nil)) .nil ?_
     refine .as rfl (by rfl) ?_
     refine .nil ?_
     obtain rfl := Option.some.inj h
     refine aq_weak (s' := ⟨[(0, .d (eL41 a0)), (3, .d (.val (.int .i64 (IntKind.i64.wrap (z0_0 + y5))))), (4, .d (.val (.int .i64 (IntKind.i64.wrap (z0_1 + (1 : Int))))))], [], []⟩) id hb0 (.keep rfl (.keep rfl (.keep rfl .nil))) .nil rfl (by rfl) ?_
     exact jq
   replace h := ite_f hc1 h
   refine aw_exit ?_
   refine aq_then_exit ?_
   obtain rfl := Option.some.inj h
   refine aq_weak (s' := ⟨[(3, .d (.val (.int .i64 z0_0)))], [], []⟩) id hb0 (.keep rfl .nil) .nil rfl (by rfl) ?_
   exact jq
 refine aq_block_exit ?_
 refine aq_then ?_
 refine aw_rs ?_
 refine .mv rfl (by rfl) ?_
 refine .as rfl (by rfl) ?_
 refine .nil (aq_then ?_)
 refine aw_ret ?_
 obtain rfl := Option.some.inj h
 exact aq_finp hb0 rfl (.tmp rfl (by rfl) .nil) (by rfl) rfl ⟨rfl, rfl⟩

/- 30: beadroll/pool.Count -/
def F30_pool_Count_s0 (n : Nat) (a0 : (List GShard)) (z0_0 : Int) (z0_1 : Int) : Option ((Int × Int) ⊕ (Int)) :=
  (if (decide (z0_1 < ((a0).length : Int))) = true then ((rd a0 z0_1).bind fun (x2 : GShard) => ((F53_shard_Count n x2).bind fun (y5 : Int) => some (.inl ((IntKind.i64.wrap (z0_0 + y5)), (IntKind.i64.wrap (z0_1 + (1 : Int))))))) else some (.inr z0_0))
def F30_pool_Count (n : Nat) (a0 : (List GShard)) : Option (Int) :=
  ((loopF (fun (z : Int × Int) => F30_pool_Count_s0 n a0 z.1 z.2) n ((0 : Int), (0 : Int))).bind fun (o7 : Int) => some o7)
theorem F30_pool_Count_ok {n : Nat} {a0 : (List GShard)} {r : Int} (h : F30_pool_Count n a0 = some r) :
    ACall Tryd.prog GS 30 [.d (eL41 a0)] [] (fun r' hp' => r' = .d (.val (.int .i64 r)) ∧ hp' = []) := by
 refine acall_of_body mixed Tryd.func30 rfl (by rfl) ?_
 intro C hro hgl hb0
 unfold F30_pool_Count at h
 refine aw_rs ?_
 refine .as rfl (by rfl) ?_
 refine .nil (aq_then ?_)
 refine aw_seq ?_
 refine aw_rs ?_
 refine .mv rfl (by rfl) ?_
 refine .v (f_lenD (n := (a0).length) (by rfl) sl41 rfl (by simp)) rfl (.c rfl .nil) .nil ?_
 refine .mv rfl (by rfl) ?_
 refine .nil (aq_then ?_)
 refine aw_block ?_
 refine aw_weak (s' := ⟨[(2, .d (.val (.int .i64 (0 : Int)))), (5, .d (eL41 a0)), (6, .d (.val (.int .i64 ((a0).length : Int)))), (7, .d (.val (.int .i64 (0 : Int))))], [], []⟩) id hb0 (.keep rfl (.keep rfl (.keep rfl (.keep rfl .nil)))) .nil rfl (by rfl) ?_
 obtain ⟨o7, ho8, h⟩ := bind_some h
 refine aw_loopX (σ := Int × Int) (fun z => ⟨[(2, .d (.val (.int .i64 z.1))), (5, .d (eL41 a0)), (6, .d (.val (.int .i64 ((a0).length : Int)))), (7, .d (.val (.int .i64 z.2)))], [], []⟩) (fun _ => (.exit 0)) (fun (o7 : Int) => ⟨[(2, .d (.val (.int .i64 o7)))], [], []⟩) ho8 (fun _ => rfl) ?_ ?_
 · clear h ho8
   rintro ⟨z0_0, z0_1⟩ o h
   change F30_pool_Count_s0 n a0 z0_0 z0_1 = some o at h
   unfold F30_pool_Count_s0 at h
   show AW _ _ _ ⟨[(2, .d (.val (.int .i64 z0_0))), (5, .d (eL41 a0)), (6, .d (.val (.int .i64 ((a0).length : Int)))), (7, .d (.val (.int .i64 z0_1)))], [], []⟩
   refine aw_rs ?_
   refine .v (f_binI (by rfl) rfl (by rfl)) rfl (.c rfl (.c rfl .nil)) .nil ?_
   refine .nil (aq_then ?_)
   refine aw_seq ?_
   refine aw_cond rfl (fun hc1 => ?_) (fun hc1 => ?_)
   · replace h := ite_t hc1 h
     refine aw_skip ?_
     refine aq_then ?_
     refine aw_seq ?_
     refine aw_block ?_
     refine aw_rs ?_
     obtain ⟨x2, hx3, h⟩ := bind_some h
     obtain ⟨hx4, hx3⟩ := rd_some hx3
     refine .v (f_indexS (by rfl) sl41 hx4 (rd_map _ hx3)) rfl (.c rfl (.c rfl .nil)) .nil ?_
     refine .v (f_loadR (z := (eGShard x2)) (by rfl) ty74) rfl (.c rfl .nil) .nil ?_
     refine .n (f_alloc 4 (by rfl) zrv74) rfl .nil rfl ?_
     refine .s (f_store (n := 0) (o := 4) (off := 0) (p := []) (c := .st [.d (.val (.slice none 0 0))]) (old := .st [.d (.val (.slice none 0 0))]) (z := .d (eGShard x2)) (c' := .d (eGShard x2)) rfl rfl (by rfl) ty74 (by rfl)) rfl (.c rfl (.c rfl .nil)) (.cons rfl .nil) ?_
     refine .nil (aq_then ?_)
     refine aw_r ?_
     refine .mv rfl (by rfl) ?_
     refine .v (f_load (n := 0) (o := 4) (off := 0) (p := []) (c := .d (eGShard x2)) (z := .d (eGShard x2)) (by rfl) rfl ty74 (by rfl)) rfl (.c rfl .nil) (.cons rfl .nil) ?_
     obtain ⟨y5, hy6, h⟩ := bind_some h
     refine .v (f_callP hgl (by rfl) en53 rfl (by rfl) (by rfl) (by rfl) (F53_shard_Count_ok hy6)) rfl (.c rfl .nil) .nil ?_
     refine .v (f_binI (by rfl) rfl (by rfl)) rfl (.c rfl (.c rfl .nil)) .nil ?_
     refine .as rfl (by rfl) ?_
     refine .nil ?_
     refine aq_block ?_
     refine aq_then ?_
     refine aw_r ?_
     refine .v (f_binI (by rfl) rfl (by rfl)) rfl (.c rfl (.c rfl .nil)) .nil ?_
     refine .mv rfl (by rfl) ?_
     refine .nil ?_
     obtain rfl := Option.some.inj h
     refine aq_weak (s' := ⟨[(2, .d (.val (.int .i64 (IntKind.i64.wrap (z0_0 + y5))))), (5, .d (eL41 a0)), (6, .d (.val (.int .i64 ((a0).length : Int)))), (7, .d (.val (.int .i64 (IntKind.i64.wrap (z0_1 + (1 : Int))))))], [], []⟩) id hb0 (.keep rfl (.keep rfl (.keep rfl (.keep rfl .nil)))) .nil rfl (by rfl) ?_
     exact jq
   replace h := ite_f hc1 h
   refine aw_exit ?_
   refine aq_then_exit ?_
   obtain rfl := Option.some.inj h
   refine aq_weak (s' := ⟨[(2, .d (.val (.int .i64 z0_0)))], [], []⟩) id hb0 (.keep rfl .nil) .nil rfl (by rfl) ?_
   exact jq
 refine aq_block_exit ?_
 refine aq_then ?_
 refine aw_rs ?_
 refine .mv rfl (by rfl) ?_
 refine .as rfl (by rfl) ?_
 refine .nil (aq_then ?_)
 refine aw_ret ?_
 obtain rfl := Option.some.inj h
 exact aq_finp hb0 rfl (.tmp rfl (by rfl) .nil) (by rfl) rfl ⟨rfl, rfl⟩

/- 29: beadroll/beadrollref21.Check -/
def F29_beadrollref21_Check (n : Nat) (a0 : (List GShard)) : Option (Int) :=
  ((F81_beadrollref21_May n a0).bind fun (y1 : Bool) => (if (!y1) = true then some (8 : Int) else some (0 : Int)))
theorem F29_beadrollref21_Check_ok {n : Nat} {a0 : (List GShard)} {r : Int} (h : F29_beadrollref21_Check n a0 = some r) :
    ACall Tryd.prog GS 29 [.d (eL41 a0)] [] (fun r' hp' => r' = .d (.val (.int .i64 r)) ∧ hp' = []) := by
 refine acall_of_body mixed Tryd.func29 rfl (by rfl) ?_
 intro C hro hgl hb0
 unfold F29_beadrollref21_Check at h
 refine aw_rs ?_
 refine .as rfl (by rfl) ?_
 refine .nil (aq_then ?_)
 refine aw_seq ?_
 refine aw_rs ?_
 refine .mv rfl (by rfl) ?_
 obtain ⟨y1, hy2, h⟩ := bind_some h
 refine .v (f_callP hgl (by rfl) en81 rfl (by rfl) (by rfl) (by rfl) (F81_beadrollref21_May_ok hy2)) rfl (.c rfl .nil) .nil ?_
 refine .v (f_not (by rfl)) rfl (.c rfl .nil) .nil ?_
 refine .nil (aq_then ?_)
 refine aw_cond rfl (fun hc3 => ?_) (fun hc3 => ?_)
 · replace h := ite_t hc3 h
   refine aw_rs ?_
   refine .as rfl (by rfl) ?_
   refine .nil (aq_then ?_)
   refine aw_ret ?_
   refine aq_then_ret ?_
   obtain rfl := Option.some.inj h
   exact aq_finp hb0 rfl (.tmp rfl (by rfl) .nil) (by rfl) rfl ⟨rfl, rfl⟩
 replace h := ite_f hc3 h
 refine aw_skip ?_
 refine aq_then ?_
 refine aw_rs ?_
 refine .as rfl (by rfl) ?_
 refine .nil (aq_then ?_)
 refine aw_ret ?_
 obtain rfl := Option.some.inj h
 exact aq_finp hb0 rfl (.tmp rfl (by rfl) .nil) (by rfl) rfl ⟨rfl, rfl⟩

/- 27: beadroll/beadrollref21.Same -/
def F27_beadrollref21_Same_s0 (n : Nat) (a0 : (List GShard)) (a1 : (List GShard)) (z0_0 : Int) : Option ((Int) ⊕ ((Unit) ⊕ (Unit))) :=
  (if (decide (z0_0 < ((a0).length : Int))) = true then ((rd a0 z0_0).bind fun (x3 : GShard) => ((rd a1 z0_0).bind fun (x6 : GShard) => ((F56_beadrollref20_Same n x3 x6).bind fun (y9 : Bool) => (if (!y9) = true then some (.inr (.inr ())) else some (.inl (IntKind.i64.wrap (z0_0 + (1 : Int)))))))) else some (.inr (.inl ())))
def F27_beadrollref21_Same (n : Nat) (a0 : (List GShard)) (a1 : (List GShard)) : Option (Bool) :=
  (if (((a0).length : Int) != ((a1).length : Int)) = true then some false else ((loopF (fun (z : Int) => F27_beadrollref21_Same_s0 n a0 a1 z) n (0 : Int)).bind (Sum.elim (fun (j12 : Unit) => some true) (fun (j12 : Unit) => some false))))
theorem F27_beadrollref21_Same_ok {n : Nat} {a0 : (List GShard)} {a1 : (List GShard)} {r : Bool} (h : F27_beadrollref21_Same n a0 a1 = some r) :
    ACall Tryd.prog GS 27 [.d (eL41 a0), .d (eL41 a1)] [] (fun r' hp' => r' = .d (.val (.bool r)) ∧ hp' = []) := by
 refine acall_of_body mixed Tryd.func27 rfl (by rfl) ?_
 intro C hro hgl hb0
 unfold F27_beadrollref21_Same at h
 refine aw_rs ?_
 refine .as rfl (by rfl) ?_
 refine .nil (aq_then ?_)
 refine aw_seq ?_
 refine aw_rs ?_
 refine .mv rfl (by rfl) ?_
 refine .v (f_lenD (n := (a0).length) (by rfl) sl41 rfl (by simp)) rfl (.c rfl .nil) .nil ?_
 refine .mv rfl (by rfl) ?_
 refine .v (f_lenD (n := (a1).length) (by rfl) sl41 rfl (by simp)) rfl (.c rfl .nil) .nil ?_
 refine .v (f_binI (by rfl) rfl (by rfl)) rfl (.c rfl (.c rfl .nil)) .nil ?_
 refine .nil (aq_then ?_)
 refine aw_cond rfl (fun hc1 => ?_) (fun hc1 => ?_)
 · replace h := ite_t hc1 h
   refine aw_rs ?_
   refine .as rfl (by rfl) ?_
   refine .nil (aq_then ?_)
   refine aw_ret ?_
   refine aq_then_ret ?_
   obtain rfl := Option.some.inj h
   exact aq_finp hb0 rfl (.tmp rfl (by rfl) .nil) (by rfl) rfl ⟨rfl, rfl⟩
 replace h := ite_f hc1 h
 refine aw_skip ?_
 refine aq_then ?_
 refine aw_seq ?_
 refine aw_rs ?_
 refine .as rfl (by rfl) ?_
 refine .nil (aq_then ?_)
 refine aw_block ?_
 refine aw_weak (s' := ⟨[(0, .d (eL41 a0)), (1, .d (eL41 a1)), (5, .d (.val (.int .i64 (0 : Int))))], [], []⟩) id hb0 (.keep rfl (.keep rfl (.keep rfl .nil))) .nil rfl (by rfl) ?_
 obtain ⟨o12, ho13, h⟩ := bind_some h
 refine aw_loopX (σ := Int) (fun z => ⟨[(0, .d (eL41 a0)), (1, .d (eL41 a1)), (5, .d (.val (.int .i64 z)))], [], []⟩) (Sum.elim (fun _ => .exit 0) (fun _ => .ret)) (Sum.elim (fun j12 => ⟨[], [], []⟩) (fun j12 => ⟨[(4, .d (.val (.bool false)))], [], []⟩)) ho13 (by intro b; rcases b with _ | _ <;> rfl) ?_ ?_
 · clear h ho13
   intro z0_0 o h
   change F27_beadrollref21_Same_s0 n a0 a1 z0_0 = some o at h
   unfold F27_beadrollref21_Same_s0 at h
   show AW _ _ _ ⟨[(0, .d (eL41 a0)), (1, .d (eL41 a1)), (5, .d (.val (.int .i64 z0_0)))], [], []⟩
   refine aw_seq ?_
   refine aw_rs ?_
   refine .mv rfl (by rfl) ?_
   refine .mv rfl (by rfl) ?_
   refine .v (f_lenD (n := (a0).length) (by rfl) sl41 rfl (by simp)) rfl (.c rfl .nil) .nil ?_
   refine .v (f_binI (by rfl) rfl (by rfl)) rfl (.c rfl (.c rfl .nil)) .nil ?_
   refine .nil (aq_then ?_)
   refine aw_cond rfl (fun hc2 => ?_) (fun hc2 => ?_)
   · replace h := ite_t hc2 h
     refine aw_skip ?_
     refine aq_then ?_
     refine aw_seq ?_
     refine aw_block ?_
     refine aw_rds ?_
     refine .v (f_move (by rfl)) rfl (.c rfl .nil) .nil ?_
     refine .v (f_move (by rfl)) rfl (.c rfl .nil) .nil ?_
     obtain ⟨x3, hx4, h⟩ := bind_some h
     obtain ⟨hx5, hx4⟩ := rd_some hx4
     refine .v (f_indexS (by rfl) sl41 hx5 (rd_map _ hx4)) rfl (.c rfl (.c rfl .nil)) .nil ?_
     refine .v (f_loadR (z := (eGShard x3)) (by rfl) ty74) rfl (.c rfl .nil) .nil ?_
     refine .v (f_move (by rfl)) rfl (.c rfl .nil) .nil ?_
     refine .v (f_move (by rfl)) rfl (.c rfl .nil) .nil ?_
     obtain ⟨x6, hx7, h⟩ := bind_some h
     obtain ⟨hx8, hx7⟩ := rd_some hx7
     refine .v (f_indexS (by rfl) sl41 hx8 (rd_map _ hx7)) rfl (.c rfl (.c rfl .nil)) .nil ?_
     refine .v (f_loadR (z := (eGShard x6)) (by rfl) ty74) rfl (.c rfl .nil) .nil ?_
     obtain ⟨y9, hy10, h⟩ := bind_some h
     refine .v (f_callP hgl (by rfl) en56 rfl (by rfl) (by rfl) (by rfl) (F56_beadrollref20_Same_ok hy10)) rfl (.c rfl (.c rfl .nil)) .nil ?_
     refine .v (f_not (by rfl)) rfl (.c rfl .nil) .nil ?_
     refine .nil (by kernel_rfl) ?_
     refine aw_cond rfl (fun hc11 => ?_) (fun hc11 => ?_)
     · replace h := ite_t hc11 h
       refine aw_rs ?_
       refine .as rfl (by rfl) ?_
       refine .nil (aq_then ?_)
       refine aw_ret ?_
       refine aq_block_ret ?_
       refine aq_then_ret ?_
       obtain rfl := Option.some.inj h
       refine aq_weak (s' := ⟨[(4, .d (.val (.bool false)))], [], []⟩) id hb0 (.keep rfl .nil) .nil rfl (by rfl) ?_
       exact jq
     replace h := ite_f hc11 h
     refine aw_skip ?_
     refine aq_block ?_
     refine aq_then ?_
     refine aw_r ?_
     refine .mv rfl (by rfl) ?_
     refine .v (f_binI (by rfl) rfl (by rfl)) rfl (.c rfl (.c rfl .nil)) .nil ?_
     refine .as rfl (by rfl) ?_
     refine .nil ?_
     obtain rfl := Option.some.inj h
     refine aq_weak (s' := ⟨[(0, .d (eL41 a0)), (1, .d (eL41 a1)), (5, .d (.val (.int .i64 (IntKind.i64.wrap (z0_0 + (1 : Int))))))], [], []⟩) id hb0 (.keep rfl (.keep rfl (.keep rfl .nil))) .nil rfl (by rfl) ?_
     exact jq
   replace h := ite_f hc2 h
   refine aw_exit ?_
   refine aq_then_exit ?_
   obtain rfl := Option.some.inj h
   refine aq_weak (s' := ⟨[], [], []⟩) id hb0 .nil .nil rfl (by rfl) ?_
   exact jq
 rcases o12 with j12 | j12
 · replace h := elim_l h
   refine aq_block_exit ?_
   refine aq_then ?_
   refine aw_rs ?_
   refine .as rfl (by rfl) ?_
   refine .nil (aq_then ?_)
   refine aw_ret ?_
   obtain rfl := Option.some.inj h
   exact aq_finp hb0 rfl (.tmp rfl (by rfl) .nil) (by rfl) rfl ⟨rfl, rfl⟩
 replace h := elim_r h
 refine aq_block_ret ?_
 refine aq_then_ret ?_
 obtain rfl := Option.some.inj h
 exact aq_finp hb0 rfl (.tmp rfl (by rfl) .nil) (by rfl) rfl ⟨rfl, rfl⟩

/- 26: beadroll/beadrollref21.New -/
def F26_beadrollref21_New (n : Nat) (a0 : Int) : Option ((List GShard) × Int) :=
  (((if (decide (a0 < (1 : Int))) = true then some true else some (decide (a0 > (8 : Int))))).bind fun (o2 : Bool) => (if o2 = true then some ([], (2 : Int)) else (if 0 ≤ a0 ∧ a0 ≤ 1073741824 then some ((List.replicate (a0).toNat (⟨[]⟩ : GShard)), (0 : Int)) else none)))
theorem F26_beadrollref21_New_ok {n : Nat} {a0 : Int} {r : (List GShard) × Int} (h : F26_beadrollref21_New n a0 = some r) :
    ACall Tryd.prog GS 26 [.d (.val (.int .i64 a0))] [] (fun r' hp' => r' = .res [.d (eL41 r.1), .d (.val (.int .i64 r.2))] ∧ hp' = []) := by
 refine acall_of_body mixed Tryd.func26 rfl (by rfl) ?_
 intro C hro hgl hb0
 unfold F26_beadrollref21_New at h
 refine aw_rs ?_
 refine .as rfl (by rfl) ?_
 refine .as rfl (by rfl) ?_
 refine .nil (aq_then ?_)
 refine aw_seq ?_
 refine aw_seq ?_
 obtain ⟨o2, ho5, h⟩ := bind_some h
 refine aw_join (.normal) ⟨[(0, .d (.val (.int .i64 a0))), (9, .d (.val (.bool o2)))], [], []⟩ ?_ ?_
 · replace h := ho5
   refine aw_r ?_
   refine .mv rfl (by rfl) ?_
   refine .v (f_binI (by rfl) rfl (by rfl)) rfl (.c rfl (.c rfl .nil)) .nil ?_
   refine .mv rfl (by rfl) ?_
   rcases Bool.eq_false_or_eq_true (decide (a0 < (1 : Int))) with hc1 | hc1
   · replace h := ite_t hc1 h
     refine .off rfl rfl rfl hc1 rfl (by rfl) ?_
     refine .off rfl rfl rfl hc1 rfl (by rfl) ?_
     refine .v (f_pick_true (by rfl) hc1) rfl (.c rfl (.c rfl .nil)) .nil ?_
     refine .nil ?_
     obtain rfl := Option.some.inj h
     refine aq_weak (s' := ⟨[(0, .d (.val (.int .i64 a0))), (9, .d (.val (.bool true)))], [], []⟩) id hb0 (.keep rfl (.keep rfl .nil)) .nil rfl (by rfl) ?_
     exact jq
   replace h := ite_f hc1 h
   refine .gv (f_move (by rfl)) rfl rfl rfl hc1 (.c rfl .nil) .nil ?_
   refine .gv (f_binI (by rfl) rfl (by rfl)) rfl rfl rfl hc1 (.c rfl (.c rfl .nil)) .nil ?_
   refine .v (f_pick_false (by rfl) hc1) rfl (.c rfl (.c rfl .nil)) .nil ?_
   refine .nil ?_
   obtain rfl := Option.some.inj h
   refine aq_weak (s' := ⟨[(0, .d (.val (.int .i64 a0))), (9, .d (.val (.bool (decide (a0 > (8 : Int))))))], [], []⟩) id hb0 (.keep rfl (.keep rfl .nil)) .nil rfl (by rfl) ?_
   exact jq
 refine aq_then ?_
 refine aw_cond rfl (fun hc3 => ?_) (fun hc3 => ?_)
 · replace h := ite_t hc3 h
   refine aw_rs ?_
   refine .as rfl (by rfl) ?_
   refine .as rfl (by rfl) ?_
   refine .nil (aq_then ?_)
   refine aw_ret ?_
   refine aq_then_ret ?_
   obtain rfl := Option.some.inj h
   refine aq_freeze [] [(2, .d (eL41 ([]))), (3, .d (.val (.int .i64 (2 : Int))))] .nil (.cons rfl .nil (.keep rfl .nil)) ?_
   exact aq_finp hb0 rfl (.tmp rfl (by rfl) (.tmp rfl (by rfl) .nil)) (by rfl) rfl ⟨rfl, rfl⟩
 replace h := ite_f hc3 h
 refine aw_skip ?_
 refine aq_then ?_
 refine aw_rs ?_
 refine .mv rfl (by rfl) ?_
 obtain ⟨hb4, h⟩ := ifp h
 refine .n (f_makeSZ (n := a0) (m := ((List.replicate (a0).toNat (⟨[]⟩ : GShard))).length) (z := (.st [(.val (.slice none 0 0))])) (z' := (eGShard (⟨[]⟩ : GShard))) (zs := ((List.replicate (a0).toNat (⟨[]⟩ : GShard))).map eGShard) 1072 (by rfl) el41 zeln41 (by rfl) hb4.1 (by omega) (by omega) (SubD.st ⟨(SubD.nil 33), trivial⟩) (by simp) (by simp)) rfl (.c rfl .nil) rfl ?_
 refine .as rfl (by rfl) ?_
 refine .as rfl (by rfl) ?_
 refine .nil (aq_then ?_)
 refine aw_ret ?_
 obtain rfl := Option.some.inj h
 refine aq_freeze [(1072, (.arr 1 (((List.replicate (a0).toNat (⟨[]⟩ : GShard))).length) (((List.replicate (a0).toNat (⟨[]⟩ : GShard))).map eGShard)))] [(2, .d (eL41 (List.replicate (a0).toNat (⟨[]⟩ : GShard)))), (3, .d (.val (.int .i64 (0 : Int))))] (.cons rfl .nil) (.cons rfl (.whole (.head _)) (.keep rfl .nil)) ?_
 exact aq_finp hb0 rfl (.tmp rfl (by rfl) (.tmp rfl (by rfl) .nil)) (by rfl) rfl ⟨rfl, rfl⟩

/- 25: beadroll/pool.New -/
def F25_pool_New (n : Nat) (a0 : Int) : Option ((List GShard) × Int) :=
  (((if (decide (a0 < (1 : Int))) = true then some true else some (decide (a0 > (8 : Int))))).bind fun (o2 : Bool) => (if o2 = true then some ([], (2 : Int)) else (if 0 ≤ a0 ∧ a0 ≤ 1073741824 then some ((List.replicate (a0).toNat (⟨[]⟩ : GShard)), (0 : Int)) else none)))
theorem F25_pool_New_ok {n : Nat} {a0 : Int} {r : (List GShard) × Int} (h : F25_pool_New n a0 = some r) :
    ACall Tryd.prog GS 25 [.d (.val (.int .i64 a0))] [] (fun r' hp' => r' = .res [.d (eL41 r.1), .d (.val (.int .i64 r.2))] ∧ hp' = []) := by
 refine acall_of_body mixed Tryd.func25 rfl (by rfl) ?_
 intro C hro hgl hb0
 unfold F25_pool_New at h
 refine aw_rs ?_
 refine .as rfl (by rfl) ?_
 refine .as rfl (by rfl) ?_
 refine .nil (aq_then ?_)
 refine aw_seq ?_
 refine aw_seq ?_
 obtain ⟨o2, ho5, h⟩ := bind_some h
 refine aw_join (.normal) ⟨[(0, .d (.val (.int .i64 a0))), (9, .d (.val (.bool o2)))], [], []⟩ ?_ ?_
 · replace h := ho5
   refine aw_r ?_
   refine .mv rfl (by rfl) ?_
   refine .v (f_binI (by rfl) rfl (by rfl)) rfl (.c rfl (.c rfl .nil)) .nil ?_
   refine .mv rfl (by rfl) ?_
   rcases Bool.eq_false_or_eq_true (decide (a0 < (1 : Int))) with hc1 | hc1
   · replace h := ite_t hc1 h
     refine .off rfl rfl rfl hc1 rfl (by rfl) ?_
     refine .off rfl rfl rfl hc1 rfl (by rfl) ?_
     refine .v (f_pick_true (by rfl) hc1) rfl (.c rfl (.c rfl .nil)) .nil ?_
     refine .nil ?_
     obtain rfl := Option.some.inj h
     refine aq_weak (s' := ⟨[(0, .d (.val (.int .i64 a0))), (9, .d (.val (.bool true)))], [], []⟩) id hb0 (.keep rfl (.keep rfl .nil)) .nil rfl (by rfl) ?_
     exact jq
   replace h := ite_f hc1 h
   refine .gv (f_move (by rfl)) rfl rfl rfl hc1 (.c rfl .nil) .nil ?_
   refine .gv (f_binI (by rfl) rfl (by rfl)) rfl rfl rfl hc1 (.c rfl (.c rfl .nil)) .nil ?_
   refine .v (f_pick_false (by rfl) hc1) rfl (.c rfl (.c rfl .nil)) .nil ?_
   refine .nil ?_
   obtain rfl := Option.some.inj h
   refine aq_weak (s' := ⟨[(0, .d (.val (.int .i64 a0))), (9, .d (.val (.bool (decide (a0 > (8 : Int))))))], [], []⟩) id hb0 (.keep rfl (.keep rfl .nil)) .nil rfl (by rfl) ?_
   exact jq
 refine aq_then ?_
 refine aw_cond rfl (fun hc3 => ?_) (fun hc3 => ?_)
 · replace h := ite_t hc3 h
   refine aw_rs ?_
   refine .as rfl (by rfl) ?_
   refine .as rfl (by rfl) ?_
   refine .nil (aq_then ?_)
   refine aw_ret ?_
   refine aq_then_ret ?_
   obtain rfl := Option.some.inj h
   refine aq_freeze [] [(2, .d (eL41 ([]))), (3, .d (.val (.int .i64 (2 : Int))))] .nil (.cons rfl .nil (.keep rfl .nil)) ?_
   exact aq_finp hb0 rfl (.tmp rfl (by rfl) (.tmp rfl (by rfl) .nil)) (by rfl) rfl ⟨rfl, rfl⟩
 replace h := ite_f hc3 h
 refine aw_skip ?_
 refine aq_then ?_
 refine aw_rs ?_
 refine .mv rfl (by rfl) ?_
 obtain ⟨hb4, h⟩ := ifp h
 refine .n (f_makeSZ (n := a0) (m := ((List.replicate (a0).toNat (⟨[]⟩ : GShard))).length) (z := (.st [(.val (.slice none 0 0))])) (z' := (eGShard (⟨[]⟩ : GShard))) (zs := ((List.replicate (a0).toNat (⟨[]⟩ : GShard))).map eGShard) 1073 (by rfl) el41 zeln41 (by rfl) hb4.1 (by omega) (by omega) (SubD.st ⟨(SubD.nil 33), trivial⟩) (by simp) (by simp)) rfl (.c rfl .nil) rfl ?_
 refine .as rfl (by rfl) ?_
 refine .as rfl (by rfl) ?_
 refine .nil (aq_then ?_)
 refine aw_ret ?_
 obtain rfl := Option.some.inj h
 refine aq_freeze [(1073, (.arr 1 (((List.replicate (a0).toNat (⟨[]⟩ : GShard))).length) (((List.replicate (a0).toNat (⟨[]⟩ : GShard))).map eGShard)))] [(2, .d (eL41 (List.replicate (a0).toNat (⟨[]⟩ : GShard)))), (3, .d (.val (.int .i64 (0 : Int))))] (.cons rfl .nil) (.cons rfl (.whole (.head _)) (.keep rfl .nil)) ?_
 exact aq_finp hb0 rfl (.tmp rfl (by rfl) (.tmp rfl (by rfl) .nil)) (by rfl) rfl ⟨rfl, rfl⟩

/- 24: beadroll/beadrollref21.At -/
def F24_beadrollref21_At (n : Nat) (a0 : (List Int)) (a1 : Int) : Option (Int × Int) :=
  (((if (decide (a1 < (1 : Int))) = true then some true else some (decide (a1 > (8 : Int))))).bind fun (o2 : Bool) => (if o2 = true then some ((0 : Int), (2 : Int)) else ((F78_beadrollref21_Of n a0 a1).bind fun (y4 : Int) => some (y4, (0 : Int)))))
theorem F24_beadrollref21_At_ok {n : Nat} {a0 : (List Int)} {a1 : Int} {r : Int × Int} (h : F24_beadrollref21_At n a0 a1 = some r) :
    ACall Tryd.prog GS 24 [.d (eA22 a0), .d (.val (.int .i64 a1))] [] (fun r' hp' => r' = .res [.d (.val (.int .i64 r.1)), .d (.val (.int .i64 r.2))] ∧ hp' = []) := by
 refine acall_of_body mixed Tryd.func24 rfl (by rfl) ?_
 intro C hro hgl hb0
 unfold F24_beadrollref21_At at h
 refine aw_rs ?_
 refine .n (f_box 2 (by rfl) (by rfl)) rfl (.c rfl .nil) rfl ?_
 refine .as rfl (by rfl) ?_
 refine .as rfl (by rfl) ?_
 refine .nil (aq_then ?_)
 refine aw_seq ?_
 refine aw_seq ?_
 obtain ⟨o2, ho6, h⟩ := bind_some h
 refine aw_join (.normal) ⟨[(1, .d (.val (.int .i64 a1))), (2, .ptr 2 0 []), (11, .d (.val (.bool o2)))], [(2, .av (.d (eA22 a0)))], []⟩ ?_ ?_
 · replace h := ho6
   refine aw_r ?_
   refine .mv rfl (by rfl) ?_
   refine .v (f_binI (by rfl) rfl (by rfl)) rfl (.c rfl (.c rfl .nil)) .nil ?_
   refine .mv rfl (by rfl) ?_
   rcases Bool.eq_false_or_eq_true (decide (a1 < (1 : Int))) with hc1 | hc1
   · replace h := ite_t hc1 h
     refine .off rfl rfl rfl hc1 rfl (by rfl) ?_
     refine .off rfl rfl rfl hc1 rfl (by rfl) ?_
     refine .v (f_pick_true (by rfl) hc1) rfl (.c rfl (.c rfl .nil)) .nil ?_
     refine .nil ?_
     obtain rfl := Option.some.inj h
     refine aq_weak (s' := ⟨[(1, .d (.val (.int .i64 a1))), (2, .ptr 2 0 []), (11, .d (.val (.bool true)))], [(2, .av (.d (eA22 a0)))], []⟩) id hb0 (.keep rfl (.keep rfl (.keep rfl .nil))) (.keep rfl .nil) rfl (by rfl) ?_
     exact jq
   replace h := ite_f hc1 h
   refine .gv (f_move (by rfl)) rfl rfl rfl hc1 (.c rfl .nil) .nil ?_
   refine .gv (f_binI (by rfl) rfl (by rfl)) rfl rfl rfl hc1 (.c rfl (.c rfl .nil)) .nil ?_
   refine .v (f_pick_false (by rfl) hc1) rfl (.c rfl (.c rfl .nil)) .nil ?_
   refine .nil ?_
   obtain rfl := Option.some.inj h
   refine aq_weak (s' := ⟨[(1, .d (.val (.int .i64 a1))), (2, .ptr 2 0 []), (11, .d (.val (.bool (decide (a1 > (8 : Int))))))], [(2, .av (.d (eA22 a0)))], []⟩) id hb0 (.keep rfl (.keep rfl (.keep rfl .nil))) (.keep rfl .nil) rfl (by rfl) ?_
   exact jq
 refine aq_then ?_
 refine aw_cond rfl (fun hc3 => ?_) (fun hc3 => ?_)
 · replace h := ite_t hc3 h
   refine aw_rs ?_
   refine .as rfl (by rfl) ?_
   refine .as rfl (by rfl) ?_
   refine .nil (aq_then ?_)
   refine aw_ret ?_
   refine aq_then_ret ?_
   obtain rfl := Option.some.inj h
   exact aq_finp hb0 rfl (.tmp rfl (by rfl) (.tmp rfl (by rfl) .nil)) (by rfl) rfl ⟨rfl, rfl⟩
 replace h := ite_f hc3 h
 refine aw_skip ?_
 refine aq_then ?_
 refine aw_rs ?_
 refine .v (f_load (n := 0) (o := 2) (off := 0) (p := []) (c := .d (eA22 a0)) (z := .d (eA22 a0)) (by rfl) rfl ty23 (by rfl)) rfl (.c rfl .nil) (.cons rfl .nil) ?_
 refine .mv rfl (by rfl) ?_
 obtain ⟨y4, hy5, h⟩ := bind_some h
 refine .v (f_callP hgl (by rfl) en78 rfl (by rfl) (by rfl) (by rfl) (F78_beadrollref21_Of_ok hy5)) rfl (.c rfl (.c rfl .nil)) .nil ?_
 refine .as rfl (by rfl) ?_
 refine .as rfl (by rfl) ?_
 refine .nil (aq_then ?_)
 refine aw_ret ?_
 obtain rfl := Option.some.inj h
 exact aq_finp hb0 rfl (.tmp rfl (by rfl) (.tmp rfl (by rfl) .nil)) (by rfl) rfl ⟨rfl, rfl⟩

/- 23: beadroll/pool.At -/
def F23_pool_At (n : Nat) (a0 : (List Int)) (a1 : Int) : Option (Int × Int) :=
  (((if (decide (a1 < (1 : Int))) = true then some true else some (decide (a1 > (8 : Int))))).bind fun (o2 : Bool) => (if o2 = true then some ((0 : Int), (2 : Int)) else ((rd a0 (31 : Int)).bind fun (x4 : Int) => (if a1 = 0 then none else some ((Int.tmod (IntKind.i64.wrap x4) a1), (0 : Int))))))
theorem F23_pool_At_ok {n : Nat} {a0 : (List Int)} {a1 : Int} {r : Int × Int} (h : F23_pool_At n a0 a1 = some r) :
    ACall Tryd.prog GS 23 [.d (eA22 a0), .d (.val (.int .i64 a1))] [] (fun r' hp' => r' = .res [.d (.val (.int .i64 r.1)), .d (.val (.int .i64 r.2))] ∧ hp' = []) := by
 refine acall_of_body mixed Tryd.func23 rfl (by rfl) ?_
 intro C hro hgl hb0
 unfold F23_pool_At at h
 refine aw_rs ?_
 refine .n (f_box 2 (by rfl) (by rfl)) rfl (.c rfl .nil) rfl ?_
 refine .as rfl (by rfl) ?_
 refine .as rfl (by rfl) ?_
 refine .nil (aq_then ?_)
 refine aw_seq ?_
 refine aw_seq ?_
 obtain ⟨o2, ho8, h⟩ := bind_some h
 refine aw_join (.normal) ⟨[(1, .d (.val (.int .i64 a1))), (2, .ptr 2 0 []), (11, .d (.val (.bool o2)))], [(2, .av (.d (eA22 a0)))], []⟩ ?_ ?_
 · replace h := ho8
   refine aw_r ?_
   refine .mv rfl (by rfl) ?_
   refine .v (f_binI (by rfl) rfl (by rfl)) rfl (.c rfl (.c rfl .nil)) .nil ?_
   refine .mv rfl (by rfl) ?_
   rcases Bool.eq_false_or_eq_true (decide (a1 < (1 : Int))) with hc1 | hc1
   · replace h := ite_t hc1 h
     refine .off rfl rfl rfl hc1 rfl (by rfl) ?_
     refine .off rfl rfl rfl hc1 rfl (by rfl) ?_
     refine .v (f_pick_true (by rfl) hc1) rfl (.c rfl (.c rfl .nil)) .nil ?_
     refine .nil ?_
     obtain rfl := Option.some.inj h
     refine aq_weak (s' := ⟨[(1, .d (.val (.int .i64 a1))), (2, .ptr 2 0 []), (11, .d (.val (.bool true)))], [(2, .av (.d (eA22 a0)))], []⟩) id hb0 (.keep rfl (.keep rfl (.keep rfl .nil))) (.keep rfl .nil) rfl (by rfl) ?_
     exact jq
   replace h := ite_f hc1 h
   refine .gv (f_move (by rfl)) rfl rfl rfl hc1 (.c rfl .nil) .nil ?_
   refine .gv (f_binI (by rfl) rfl (by rfl)) rfl rfl rfl hc1 (.c rfl (.c rfl .nil)) .nil ?_
   refine .v (f_pick_false (by rfl) hc1) rfl (.c rfl (.c rfl .nil)) .nil ?_
   refine .nil ?_
   obtain rfl := Option.some.inj h
   refine aq_weak (s' := ⟨[(1, .d (.val (.int .i64 a1))), (2, .ptr 2 0 []), (11, .d (.val (.bool (decide (a1 > (8 : Int))))))], [(2, .av (.d (eA22 a0)))], []⟩) id hb0 (.keep rfl (.keep rfl (.keep rfl .nil))) (.keep rfl .nil) rfl (by rfl) ?_
   exact jq
 refine aq_then ?_
 refine aw_cond rfl (fun hc3 => ?_) (fun hc3 => ?_)
 · replace h := ite_t hc3 h
   refine aw_rs ?_
   refine .as rfl (by rfl) ?_
   refine .as rfl (by rfl) ?_
   refine .nil (aq_then ?_)
   refine aw_ret ?_
   refine aq_then_ret ?_
   obtain rfl := Option.some.inj h
   exact aq_finp hb0 rfl (.tmp rfl (by rfl) (.tmp rfl (by rfl) .nil)) (by rfl) rfl ⟨rfl, rfl⟩
 replace h := ite_f hc3 h
 refine aw_skip ?_
 refine aq_then ?_
 refine aw_rs ?_
 obtain ⟨x4, hx5, h⟩ := bind_some h
 obtain ⟨hx6, hx5⟩ := rd_some hx5
 refine .v (f_indexO (by rfl) ar23 rfl hx6 (rd_map _ hx5)) rfl (.c rfl (.c rfl .nil)) (.cons rfl .nil) ?_
 refine .v (f_load (n := 0) (o := 2) (off := (0 + ((31 : Int)).toNat * 1)) (p := [((31 : Int)).toNat]) (c := .d (eA22 a0)) (z := .d (.val (.int .u8 x4))) (by rfl) (at_map _ hx5 (by simp)) ty5 (by rfl)) rfl (.c rfl .nil) (.cons rfl .nil) ?_
 refine .v (f_convI (by rfl) un5 un3) rfl (.c rfl .nil) .nil ?_
 refine .mv rfl (by rfl) ?_
 obtain ⟨hz7, h⟩ := ifn h
 refine .v (f_binI (by rfl) (rem_ok hz7) (by rfl)) rfl (.c rfl (.c rfl .nil)) .nil ?_
 refine .as rfl (by rfl) ?_
 refine .as rfl (by rfl) ?_
 refine .nil (aq_then ?_)
 refine aw_ret ?_
 obtain rfl := Option.some.inj h
 exact aq_finp hb0 rfl (.tmp rfl (by rfl) (.tmp rfl (by rfl) .nil)) (by rfl) rfl ⟨rfl, rfl⟩

/- 22: beadroll/beadrollref21.Twin -/
def F22_beadrollref21_Twin_s0 (n : Nat) (a0 : (List GShard)) (z0_0 : Int) (z0_1 : List GShard) : Option ((Int × List GShard) ⊕ (List GShard)) :=
  (if (decide (z0_0 < ((a0).length : Int))) = true then ((rd a0 z0_0).bind fun (x2 : GShard) => ((F54_beadrollref20_Twin n x2).bind fun (y5 : GShard) => (if ((z0_1 ++ ([y5] : List GShard))).length ≤ 1073741824 then some (.inl ((IntKind.i64.wrap (z0_0 + (1 : Int))), (z0_1 ++ ([y5] : List GShard)))) else none))) else some (.inr z0_1))
def F22_beadrollref21_Twin (n : Nat) (a0 : (List GShard)) : Option ((List GShard)) :=
  ((loopF (fun (z : Int × List GShard) => F22_beadrollref21_Twin_s0 n a0 z.1 z.2) n ((0 : Int), ([] : List GShard))).bind fun (o8 : List GShard) => some o8)
theorem F22_beadrollref21_Twin_ok {n : Nat} {a0 : (List GShard)} {r : (List GShard)} (h : F22_beadrollref21_Twin n a0 = some r) :
    ACall Tryd.prog GS 22 [.d (eL41 a0)] [] (fun r' hp' => r' = .d (eL41 r) ∧ hp' = []) := by
 refine acall_of_body mixed Tryd.func22 rfl (by rfl) ?_
 intro C hro hgl hb0
 unfold F22_beadrollref21_Twin at h
 refine aw_rs ?_
 refine .as rfl (by rfl) ?_
 refine .nil (aq_then ?_)
 refine aw_rs ?_
 refine .as rfl (by rfl) ?_
 refine .nil (aq_then ?_)
 refine aw_seq ?_
 refine aw_rs ?_
 refine .as rfl (by rfl) ?_
 refine .nil (aq_then ?_)
 refine aw_block ?_
 refine aw_adopt 3 1076 1 rfl rfl ?_
 refine aw_weak (s' := ⟨[(0, .d (eL41 a0)), (3, .slc 1076 0 ((([] : List GShard)).length) 1), (4, .d (.val (.int .i64 (0 : Int))))], [(1076, .av (.d (.arr 1 ((([] : List GShard)).length) ((([] : List GShard)).map eGShard))))], []⟩) id hb0 (.keep rfl (.keep (by simp only [List.length_set]; rfl) (.keep rfl .nil))) (.keep (by simp only [List.length_set]; rfl) .nil) rfl (by rfl) ?_
 obtain ⟨o8, ho9, h⟩ := bind_some h
 refine aw_loopX (σ := Int × List GShard) (fun z => ⟨[(0, .d (eL41 a0)), (3, .slc 1076 0 ((z.2).length) 1), (4, .d (.val (.int .i64 z.1)))], [(1076, .av (.d (.arr 1 ((z.2).length) ((z.2).map eGShard))))], []⟩) (fun _ => (.exit 0)) (fun (o8 : List GShard) => ⟨[(3, .slc 1076 0 ((o8).length) 1)], [(1076, .av (.d (.arr 1 ((o8).length) ((o8).map eGShard))))], []⟩) ho9 (fun _ => rfl) ?_ ?_
 · clear h ho9
   rintro ⟨z0_0, z0_1⟩ o h
   change F22_beadrollref21_Twin_s0 n a0 z0_0 z0_1 = some o at h
   unfold F22_beadrollref21_Twin_s0 at h
   show AW _ _ _ ⟨[(0, .d (eL41 a0)), (3, .slc 1076 0 ((z0_1).length) 1), (4, .d (.val (.int .i64 z0_0)))], [(1076, .av (.d (.arr 1 ((z0_1).length) ((z0_1).map eGShard))))], []⟩
   refine aw_seq ?_
   refine aw_rs ?_
   refine .mv rfl (by rfl) ?_
   refine .mv rfl (by rfl) ?_
   refine .v (f_lenD (n := (a0).length) (by rfl) sl41 rfl (by simp)) rfl (.c rfl .nil) .nil ?_
   refine .v (f_binI (by rfl) rfl (by rfl)) rfl (.c rfl (.c rfl .nil)) .nil ?_
   refine .nil (aq_then ?_)
   refine aw_cond rfl (fun hc1 => ?_) (fun hc1 => ?_)
   · replace h := ite_t hc1 h
     refine aw_skip ?_
     refine aq_then ?_
     refine aw_seq ?_
     refine aw_block ?_
     refine aw_r ?_
     refine .mv rfl (by rfl) ?_
     refine .mv rfl (by rfl) ?_
     refine .mv rfl (by rfl) ?_
     obtain ⟨x2, hx3, h⟩ := bind_some h
     obtain ⟨hx4, hx3⟩ := rd_some hx3
     refine .v (f_indexS (by rfl) sl41 hx4 (rd_map _ hx3)) rfl (.c rfl (.c rfl .nil)) .nil ?_
     refine .v (f_loadR (z := (eGShard x2)) (by rfl) ty74) rfl (.c rfl .nil) .nil ?_
     obtain ⟨y5, hy6, h⟩ := bind_some h
     refine .v (f_callP hgl (by rfl) en54 rfl (by rfl) (by rfl) (by rfl) (F54_beadrollref20_Twin_ok hy6)) rfl (.c rfl .nil) .nil ?_
     refine .n (f_buildS (xs := [(0, .d (eGShard y5))]) (z := (.st [(.val (.slice none 0 0))])) (zs := (([y5] : List GShard)).map eGShard) 1079 (by rfl) el41 zel41 (by rfl) (by decide) (by decide) rfl (by rfl) ⟨_, _, _, rfl, pl41_0, rfl, rfl, trivial⟩ (by rfl)) rfl (.c rfl .nil) rfl ?_
     obtain ⟨hb7, h⟩ := ifp h
     refine .w (f_appendC (m := ((z0_1 ++ ([y5] : List GShard))).length) (ys := (([y5] : List GShard) : List GShard).map eGShard) (xs := (z0_1).map eGShard) (zs := ((z0_1 ++ ([y5] : List GShard))).map eGShard) 1080 (by rfl) el41 (by simp) (by simp) (by simp [List.map_drop]) (by simp) (Nat.le_trans (Nat.mul_le_mul_right _ hb7) (by decide)) (Nat.le_trans hb7 (by decide)) srcW) rfl (.c rfl (.c rfl .nil)) (.cons rfl (.cons rfl .nil)) (.cons rfl .nil) ?_
     refine .as rfl (by rfl) ?_
     refine .nil ?_
     refine aq_block ?_
     refine aq_then ?_
     refine aw_r ?_
     refine .mv rfl (by rfl) ?_
     refine .v (f_binI (by rfl) rfl (by rfl)) rfl (.c rfl (.c rfl .nil)) .nil ?_
     refine .as rfl (by rfl) ?_
     refine .nil ?_
     obtain rfl := Option.some.inj h
     refine aq_weak (s' := ⟨[(0, .d (eL41 a0)), (3, .slc 1076 0 (((z0_1 ++ ([y5] : List GShard))).length) 1), (4, .d (.val (.int .i64 (IntKind.i64.wrap (z0_0 + (1 : Int))))))], [(1076, .av (.d (.arr 1 (((z0_1 ++ ([y5] : List GShard))).length) (((z0_1 ++ ([y5] : List GShard))).map eGShard))))], []⟩) (fun i => (bif Nat.beq i 1076 then 1080 else i)) hb0 (.cons rfl (.cons rfl (.cons rfl .nil))) (.cons rfl .nil) rfl (by rfl) ?_
     exact jq
   replace h := ite_f hc1 h
   refine aw_exit ?_
   refine aq_then_exit ?_
   obtain rfl := Option.some.inj h
   refine aq_weak (s' := ⟨[(3, .slc 1076 0 ((z0_1).length) 1)], [(1076, .av (.d (.arr 1 ((z0_1).length) ((z0_1).map eGShard))))], []⟩) id hb0 (.keep rfl .nil) (.keep rfl .nil) rfl (by rfl) ?_
   exact jq
 refine aq_block_exit ?_
 refine aq_then ?_
 refine aw_rs ?_
 refine .mv rfl (by rfl) ?_
 refine .as rfl (by rfl) ?_
 refine .nil (aq_then ?_)
 refine aw_ret ?_
 obtain rfl := Option.some.inj h
 refine aq_freeze [(1076, (.arr 1 ((o8).length) ((o8).map eGShard)))] [(2, .d (eL41 o8))] (.cons rfl .nil) (.cons rfl (.whole (.head _)) .nil) ?_
 exact aq_finp hb0 rfl (.tmp rfl (by rfl) .nil) (by rfl) rfl ⟨rfl, rfl⟩

/- 21: beadroll/beadrollref21.Great -/
def F21_beadrollref21_Great_s0 (n : Nat) (a0 : (List GShard)) (z0_0 : Int) : Option ((Int) ⊕ ((Unit) ⊕ (Unit))) :=
  (((if (decide (z0_0 < ((a0).length : Int))) = true then some (decide (z0_0 < (10 : Int))) else some false)).bind fun (o2 : Bool) => (if o2 = true then ((rd a0 z0_0).bind fun (x4 : GShard) => ((F49_beadrollref20_Great n x4).bind fun (y7 : Bool) => (if y7 = true then some (.inr (.inr ())) else some (.inl (IntKind.i64.wrap (z0_0 + (1 : Int))))))) else some (.inr (.inl ()))))
def F21_beadrollref21_Great (n : Nat) (a0 : (List GShard)) : Option (Bool) :=
  ((loopF (fun (z : Int) => F21_beadrollref21_Great_s0 n a0 z) n (0 : Int)).bind (Sum.elim (fun (j11 : Unit) => some (decide (((a0).length : Int) > (10 : Int)))) (fun (j11 : Unit) => some true)))
theorem F21_beadrollref21_Great_ok {n : Nat} {a0 : (List GShard)} {r : Bool} (h : F21_beadrollref21_Great n a0 = some r) :
    ACall Tryd.prog GS 21 [.d (eL41 a0)] [] (fun r' hp' => r' = .d (.val (.bool r)) ∧ hp' = []) := by
 refine acall_of_body mixed Tryd.func21 rfl (by rfl) ?_
 intro C hro hgl hb0
 unfold F21_beadrollref21_Great at h
 refine aw_rs ?_
 refine .as rfl (by rfl) ?_
 refine .nil (aq_then ?_)
 refine aw_seq ?_
 refine aw_rs ?_
 refine .as rfl (by rfl) ?_
 refine .nil (aq_then ?_)
 refine aw_block ?_
 refine aw_weak (s' := ⟨[(0, .d (eL41 a0)), (3, .d (.val (.int .i64 (0 : Int))))], [], []⟩) id hb0 (.keep rfl (.keep rfl .nil)) .nil rfl (by rfl) ?_
 obtain ⟨o11, ho12, h⟩ := bind_some h
 refine aw_loopX (σ := Int) (fun z => ⟨[(0, .d (eL41 a0)), (3, .d (.val (.int .i64 z)))], [], []⟩) (Sum.elim (fun _ => .exit 0) (fun _ => .ret)) (Sum.elim (fun j11 => ⟨[(0, .d (eL41 a0))], [], []⟩) (fun j11 => ⟨[(2, .d (.val (.bool true)))], [], []⟩)) ho12 (by intro b; rcases b with _ | _ <;> rfl) ?_ ?_
 · clear h ho12
   intro z0_0 o h
   change F21_beadrollref21_Great_s0 n a0 z0_0 = some o at h
   unfold F21_beadrollref21_Great_s0 at h
   show AW _ _ _ ⟨[(0, .d (eL41 a0)), (3, .d (.val (.int .i64 z0_0)))], [], []⟩
   refine aw_seq ?_
   refine aw_seq ?_
   obtain ⟨o2, ho10, h⟩ := bind_some h
   refine aw_join (.normal) ⟨[(0, .d (eL41 a0)), (3, .d (.val (.int .i64 z0_0))), (11, .d (.val (.bool o2)))], [], []⟩ ?_ ?_
   · replace h := ho10
     refine aw_r ?_
     refine .mv rfl (by rfl) ?_
     refine .mv rfl (by rfl) ?_
     refine .v (f_lenD (n := (a0).length) (by rfl) sl41 rfl (by simp)) rfl (.c rfl .nil) .nil ?_
     refine .v (f_binI (by rfl) rfl (by rfl)) rfl (.c rfl (.c rfl .nil)) .nil ?_
     refine .mv rfl (by rfl) ?_
     rcases Bool.eq_false_or_eq_true (decide (z0_0 < ((a0).length : Int))) with hc1 | hc1
     · replace h := ite_t hc1 h
       refine .gv (f_move (by rfl)) rfl rfl rfl hc1 (.c rfl .nil) .nil ?_
       refine .gv (f_binI (by rfl) rfl (by rfl)) rfl rfl rfl hc1 (.c rfl (.c rfl .nil)) .nil ?_
       refine .v (f_pick_true (by rfl) hc1) rfl (.c rfl (.c rfl .nil)) .nil ?_
       refine .nil ?_
       obtain rfl := Option.some.inj h
       refine aq_weak (s' := ⟨[(0, .d (eL41 a0)), (3, .d (.val (.int .i64 z0_0))), (11, .d (.val (.bool (decide (z0_0 < (10 : Int))))))], [], []⟩) id hb0 (.keep rfl (.keep rfl (.keep rfl .nil))) .nil rfl (by rfl) ?_
       exact jq
     replace h := ite_f hc1 h
     refine .off rfl rfl rfl hc1 rfl (by rfl) ?_
     refine .off rfl rfl rfl hc1 rfl (by rfl) ?_
     refine .v (f_pick_false (by rfl) hc1) rfl (.c rfl (.c rfl .nil)) .nil ?_
     refine .nil ?_
     obtain rfl := Option.some.inj h
     refine aq_weak (s' := ⟨[(0, .d (eL41 a0)), (3, .d (.val (.int .i64 z0_0))), (11, .d (.val (.bool false)))], [], []⟩) id hb0 (.keep rfl (.keep rfl (.keep rfl .nil))) .nil rfl (by rfl) ?_
     exact jq
   refine aq_then ?_
   refine aw_cond rfl (fun hc3 => ?_) (fun hc3 => ?_)
   · replace h := ite_t hc3 h
     refine aw_skip ?_
     refine aq_then ?_
     refine aw_seq ?_
     refine aw_block ?_
     refine aw_rs ?_
     refine .mv rfl (by rfl) ?_
     refine .mv rfl (by rfl) ?_
     obtain ⟨x4, hx5, h⟩ := bind_some h
     obtain ⟨hx6, hx5⟩ := rd_some hx5
     refine .v (f_indexS (by rfl) sl41 hx6 (rd_map _ hx5)) rfl (.c rfl (.c rfl .nil)) .nil ?_
     refine .v (f_loadR (z := (eGShard x4)) (by rfl) ty74) rfl (.c rfl .nil) .nil ?_
     obtain ⟨y7, hy8, h⟩ := bind_some h
     refine .v (f_callP hgl (by rfl) en49 rfl (by rfl) (by rfl) (by rfl) (F49_beadrollref20_Great_ok hy8)) rfl (.c rfl .nil) .nil ?_
     refine .nil (aq_then ?_)
     refine aw_cond rfl (fun hc9 => ?_) (fun hc9 => ?_)
     · replace h := ite_t hc9 h
       refine aw_rs ?_
       refine .as rfl (by rfl) ?_
       refine .nil (aq_then ?_)
       refine aw_ret ?_
       refine aq_block_ret ?_
       refine aq_then_ret ?_
       obtain rfl := Option.some.inj h
       refine aq_weak (s' := ⟨[(2, .d (.val (.bool true)))], [], []⟩) id hb0 (.keep rfl .nil) .nil rfl (by rfl) ?_
       exact jq
     replace h := ite_f hc9 h
     refine aw_skip ?_
     refine aq_block ?_
     refine aq_then ?_
     refine aw_r ?_
     refine .mv rfl (by rfl) ?_
     refine .v (f_binI (by rfl) rfl (by rfl)) rfl (.c rfl (.c rfl .nil)) .nil ?_
     refine .as rfl (by rfl) ?_
     refine .nil ?_
     obtain rfl := Option.some.inj h
     refine aq_weak (s' := ⟨[(0, .d (eL41 a0)), (3, .d (.val (.int .i64 (IntKind.i64.wrap (z0_0 + (1 : Int))))))], [], []⟩) id hb0 (.keep rfl (.keep rfl .nil)) .nil rfl (by rfl) ?_
     exact jq
   replace h := ite_f hc3 h
   refine aw_exit ?_
   refine aq_then_exit ?_
   obtain rfl := Option.some.inj h
   refine aq_weak (s' := ⟨[(0, .d (eL41 a0))], [], []⟩) id hb0 (.keep rfl .nil) .nil rfl (by rfl) ?_
   exact jq
 rcases o11 with j11 | j11
 · replace h := elim_l h
   refine aq_block_exit ?_
   refine aq_then ?_
   refine aw_rs ?_
   refine .mv rfl (by rfl) ?_
   refine .v (f_lenD (n := (a0).length) (by rfl) sl41 rfl (by simp)) rfl (.c rfl .nil) .nil ?_
   refine .v (f_binI (by rfl) rfl (by rfl)) rfl (.c rfl (.c rfl .nil)) .nil ?_
   refine .as rfl (by rfl) ?_
   refine .nil (aq_then ?_)
   refine aw_ret ?_
   obtain rfl := Option.some.inj h
   exact aq_finp hb0 rfl (.tmp rfl (by rfl) .nil) (by rfl) rfl ⟨rfl, rfl⟩
 replace h := elim_r h
 refine aq_block_ret ?_
 refine aq_then_ret ?_
 obtain rfl := Option.some.inj h
 exact aq_finp hb0 rfl (.tmp rfl (by rfl) .nil) (by rfl) rfl ⟨rfl, rfl⟩
end Go.Proofs.YtonfljoibcnlgaaDoor
