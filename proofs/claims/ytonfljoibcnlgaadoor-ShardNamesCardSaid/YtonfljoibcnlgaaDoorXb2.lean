/-
  PRINTED by wip/pr3.py: for each Go function a Lean function with the same answers, and the proof.
-/
import Derived.Test.YtonfljoibcnlgaaDoorXb1
namespace Go.Proofs.YtonfljoibcnlgaaDoor
open Bd
set_option maxRecDepth 10000

/- 67: beadroll/acct.Check -/
def F67_acct_Check_s0 (n : Nat) (y4 : (List GPair) × Int) (z0_0 : Int) : Option ((Int) ⊕ ((Unit) ⊕ (Unit))) :=
  (if (decide (z0_0 < ((y4.1).length : Int))) = true then ((rd y4.1 z0_0).bind fun (x9 : GPair) => ((F104_acct_Read n x9.Value).bind fun (y12 : GAccount × Int) => (if (!(y12.2 == (0 : Int))) = true then some (.inr (.inr ())) else some (.inl (IntKind.i64.wrap (z0_0 + (1 : Int))))))) else some (.inr (.inl ())))
def F67_acct_Check (n : Nat) (a0 : GTree) : Option (Int) :=
  ((F105_acct_each n a0).bind fun (y1 : GTree) => ((F135_tree_Pairs n y1).bind fun (y4 : (List GPair) × Int) => (if (y4.2 != (0 : Int)) = true then some (8 : Int) else ((loopF (fun (z : Int) => F67_acct_Check_s0 n y4 z) n (0 : Int)).bind (Sum.elim (fun (j16 : Unit) => some (0 : Int)) (fun (j16 : Unit) => some (8 : Int)))))))
theorem F67_acct_Check_ok {n : Nat} {a0 : GTree} {r : Int} (h : F67_acct_Check n a0 = some r) :
    ACall Tryd.prog GS 67 [.d (eGTree a0)] [] (fun r' hp' => r' = .d (.val (.int .i64 r)) ∧ hp' = []) := by
 refine acall_of_body mixed Tryd.func67 rfl (by rfl) ?_
 intro C hro hgl hb0
 unfold F67_acct_Check at h
 refine aw_rs ?_
 refine .n (f_box 1 (by rfl) (by rfl)) rfl (.c rfl .nil) rfl ?_
 refine .n (f_alloc 2 (by rfl) zr29) rfl .nil rfl ?_
 refine .nil (aq_then ?_)
 refine aw_seq ?_
 refine aw_rs ?_
 refine .v (f_load (n := 0) (o := 1) (off := 0) (p := []) (c := .d (eGTree a0)) (z := .d (eGTree a0)) (by rfl) rfl ty90 (by rfl)) rfl (.c rfl .nil) (.cons rfl .nil) ?_
 obtain ⟨y1, hy2, h⟩ := bind_some h
 refine .w (f_callG (xs := [.d (eGTree a0)]) (r := .fn (.func 134) [] [.ptr 1098 0 []]) (hw := [(1098, .av (.d (eGTree y1)))]) (fun i => bif Nat.beq i 1 then 1098 else i) [] hgl (by rfl) (cal_f en105) rfl (by rfl) (by rfl) (by rfl) (by rfl) (.cons (.same _) .nil) rfl rfl rfl rfl (F105_acct_each_ok hy2)) rfl (.c rfl .nil) .nil (.cons rfl .nil) ?_
 refine .nil (aq_then ?_)
 refine aw_block ?_
 refine aw_range 1100 1099 hro rfl Tryd.func134 rfl rfl en134 rfl rfl rfl (by rfl) ?_
 intro C3 lp3 E3 hro3 hg3 hb3 hst3 hpd3 hps3 has3 hbd3 hpin3 hend3
 refine aw_rs ?_
 refine .v (f_load (n := 0) (o := 1098) (off := 0) (p := []) (c := .d (eGTree y1)) (z := .d (eGTree y1)) (by rfl) rfl ty90 (by rfl)) rfl (.c rfl .nil) (.cons rfl .nil) ?_
 obtain ⟨y4, hy5, h⟩ := bind_some h
 refine .v (f_callP (hg3.trans hgl) (by rfl) en135 rfl (by rfl) (by rfl) (by rfl) (F135_tree_Pairs_ok hy5)) rfl (.c rfl .nil) .nil ?_
 refine .mv rfl (by rfl) ?_
 refine .v (f_extract (by rfl) rfl) rfl (.c rfl .nil) .nil ?_
 refine .v (f_extract (by rfl) rfl) rfl (.c rfl .nil) .nil ?_
 refine .as rfl (by rfl) ?_
 refine .as rfl (by rfl) ?_
 refine .nil (aq_then ?_)
 refine aw_seq ?_
 refine aw_rs ?_
 refine .mv rfl (by rfl) ?_
 refine .v (f_binI (by rfl) rfl (by rfl)) rfl (.c rfl (.c rfl .nil)) .nil ?_
 refine .nil (aq_then ?_)
 refine aw_cond rfl (fun hc6 => ?_) (fun hc6 => ?_)
 · replace h := ite_t hc6 h
   refine aw_rs ?_
   refine .mv rfl (by rfl) ?_
   refine .v (f_build (xs := []) (z' := .d (eGAccount (⟨(0 : Int), (0 : Int)⟩ : GAccount))) (by rfl) zr95 ag95 rfl (by rfl) trivial (by rfl) (by rfl)) rfl .nil .nil ?_
   refine R.yield (L := 1099) (r := lp3) (ns2 := Tryd.f67.ntmps) (xs := [.d (eGAccount (⟨(0 : Int), (0 : Int)⟩ : GAccount)), .d (.val (.bool false))]) (wanted_plain rfl) (by rfl) rfl rfl hst3 (by rw [hps3]; rfl) rfl (by rfl) (.c rfl (.c rfl .nil)) hpin3 (by rw [hps3]; rfl) ?_
   intro C7 Y7 A7 hr7 hh7 hk7 hp7 he7 hn7
   refine aw_code has3 ?_
   rw [hps3]
   refine aw_r ?_
   refine .as rfl (by rfl) ?_
   refine .nil ?_
   refine hn7 _ rfl ?_
   refine aw_code hbd3 ?_
   refine aw_block ?_
   refine aw_rs ?_
   refine .mv rfl (by rfl) ?_
   refine .v (f_not (by rfl)) rfl (.c rfl .nil) .nil ?_
   refine .nil (aq_then ?_)
   refine aw_cond rfl (fun _ => ?_) (fun hx => absurd (hx.symm.trans (not_t rfl)) (by simp))
   refine aw_rs ?_
   refine .s (f_store (n := 0) (o := 2) (off := 0) (p := []) (c := .d (.val (.int .i64 (0 : Int)))) (old := .d (.val (.int .i64 (0 : Int)))) (z := .d (.val (.int .i64 (8 : Int)))) (c' := .d (.val (.int .i64 (8 : Int)))) rfl rfl (by rfl) ty29 (by rfl)) rfl (.c rfl (.c rfl .nil)) (.cons rfl .nil) ?_
   refine .nil (aq_then ?_)
   refine aw_ret ?_
   refine aq_block_ret ?_
   refine he7 .ret (some .ret) _ rfl rfl rfl ?_
   refine .nil (aq_then ?_)
   refine aw_ret ?_
   refine aq_then_ret ?_
   refine hend3 .ret _ .done (some .ret) (.inl rfl) rfl rfl (by simp) ?_
   show AW _ .ret _ _
   refine aw_ret ?_
   refine aq_block_ret ?_
   refine aq_then_ret ?_
   obtain rfl := Option.some.inj h
   refine aq_marks (.inl rfl) ⟨rfl, trivial⟩ ?_
   exact aq_finp hb0 rfl (.cell rfl rfl ty29 (by rfl) .nil) (by rfl) rfl ⟨rfl, rfl⟩
 replace h := ite_f hc6 h
 refine aw_skip ?_
 refine aq_then ?_
 refine aw_rs ?_
 refine .mv rfl (by rfl) ?_
 refine .v (f_lenD (n := (y4.1).length) (by rfl) sl175 rfl (by simp)) rfl (.c rfl .nil) .nil ?_
 refine .mv rfl (by rfl) ?_
 refine .nil (aq_then ?_)
 refine aw_block ?_
 refine aw_weak (s' := ⟨[(0, .yld 1099), (19, .d (eL175 y4.1)), (20, .d (.val (.int .i64 ((y4.1).length : Int)))), (21, .d (.val (.int .i64 (0 : Int))))], [(1099, .raw (.loop lp3)), (1, .av (.d (eGTree a0))), (2, .av (.d (.val (.int .i64 (0 : Int))))), (1098, .av (.d (eGTree y1))), (1100, .raw (.deferred (some [])))], []⟩) id hb3 (.keep rfl (.keep rfl (.keep rfl (.keep rfl .nil)))) (.keepH rfl (.keep rfl (.keep rfl (.keep rfl (.keepH rfl .nil))))) rfl (by rfl) ?_
 obtain ⟨o16, ho17, h⟩ := bind_some h
 refine aw_loopX (σ := Int) (fun z => ⟨[(0, .yld 1099), (19, .d (eL175 y4.1)), (20, .d (.val (.int .i64 ((y4.1).length : Int)))), (21, .d (.val (.int .i64 z)))], [(1099, .raw (.loop lp3)), (1, .av (.d (eGTree a0))), (2, .av (.d (.val (.int .i64 (0 : Int))))), (1098, .av (.d (eGTree y1))), (1100, .raw (.deferred (some [])))], []⟩) (Sum.elim (fun _ => .exit 0) (fun _ => .ret)) (Sum.elim (fun j16 => ⟨[], [(1, .av (.d (eGTree a0))), (2, .av (.d (.val (.int .i64 (0 : Int))))), (1098, .av (.d (eGTree y1))), (1099, .raw (.loop lp3)), (1100, .raw (.deferred (some [])))], []⟩) (fun j16 => ⟨[], [(1, .av (.d (eGTree a0))), (2, .av (.d (.val (.int .i64 (8 : Int))))), (1098, .av (.d (eGTree y1))), (1099, .raw (.loop { lp3 with state := .done, pending := some .ret })), (1100, .raw (.deferred (some [])))], []⟩)) ho17 (by intro b; rcases b with _ | _ <;> rfl) ?_ ?_
 · clear h ho17
   intro z0_0 o h
   change F67_acct_Check_s0 n y4 z0_0 = some o at h
   unfold F67_acct_Check_s0 at h
   show AW _ _ _ ⟨[(0, .yld 1099), (19, .d (eL175 y4.1)), (20, .d (.val (.int .i64 ((y4.1).length : Int)))), (21, .d (.val (.int .i64 z0_0)))], [(1099, .raw (.loop lp3)), (1, .av (.d (eGTree a0))), (2, .av (.d (.val (.int .i64 (0 : Int))))), (1098, .av (.d (eGTree y1))), (1100, .raw (.deferred (some [])))], []⟩
   refine aw_rs ?_
   refine .v (f_binI (by rfl) rfl (by rfl)) rfl (.c rfl (.c rfl .nil)) .nil ?_
   refine .nil (aq_then ?_)
   refine aw_seq ?_
   refine aw_cond rfl (fun hc8 => ?_) (fun hc8 => ?_)
   · replace h := ite_t hc8 h
     refine aw_skip ?_
     refine aq_then ?_
     refine aw_seq ?_
     refine aw_block ?_
     refine aw_rs ?_
     obtain ⟨x9, hx10, h⟩ := bind_some h
     obtain ⟨hx11, hx10⟩ := rd_some hx10
     refine .v (f_indexS (by rfl) sl175 hx11 (rd_map _ hx10)) rfl (.c rfl (.c rfl .nil)) .nil ?_
     refine .v (f_loadR (z := (eGPair x9)) (by rfl) ty179) rfl (.c rfl .nil) .nil ?_
     refine .n (f_alloc 6 (by rfl) zrv179) rfl .nil rfl ?_
     refine .s (f_store (n := 0) (o := 6) (off := 0) (p := []) (c := .st [.d (eA22 (List.replicate 32 (0 : Int))), .d (.val (.slice none 0 0))]) (old := .st [.d (eA22 (List.replicate 32 (0 : Int))), .d (.val (.slice none 0 0))]) (z := .d (eGPair x9)) (c' := .d (eGPair x9)) rfl rfl (by rfl) ty179 (by rfl)) rfl (.c rfl (.c rfl .nil)) (.cons rfl .nil) ?_
     refine .nil (aq_then ?_)
     refine aw_rs ?_
     refine .v (f_fieldAddr (n := 32) (by rfl) fl179_1 (by decide)) rfl (.c rfl .nil) .nil ?_
     refine .v (f_load (n := 0) (o := 6) (off := (0 + 32)) (p := [1]) (c := .d (eGPair x9)) (z := .d (eL139 x9.Value)) (by rfl) rfl ty139 (by rfl)) rfl (.c rfl .nil) (.cons rfl .nil) ?_
     obtain ⟨y12, hy13, h⟩ := bind_some h
     refine .v (f_callP (hg3.trans hgl) (by rfl) en104 rfl (by rfl) (by rfl) (by rfl) (F104_acct_Read_ok hy13)) rfl (.c rfl .nil) .nil ?_
     refine .mv rfl (by rfl) ?_
     refine .v (f_extract (by rfl) rfl) rfl (.c rfl .nil) .nil ?_
     refine .v (f_extract (by rfl) rfl) rfl (.c rfl .nil) .nil ?_
     refine .n (f_alloc 7 (by rfl) zr95) rfl .nil rfl ?_
     refine .s (f_store (n := 0) (o := 7) (off := 0) (p := []) (c := .d (eGAccount (⟨(0 : Int), (0 : Int)⟩ : GAccount))) (old := .d (eGAccount (⟨(0 : Int), (0 : Int)⟩ : GAccount))) (z := .d (eGAccount y12.1)) (c' := .d (eGAccount y12.1)) rfl rfl (by rfl) ty95 (by rfl)) rfl (.c rfl (.c rfl .nil)) (.cons rfl .nil) ?_
     refine .as rfl (by rfl) ?_
     refine .nil (aq_then ?_)
     refine aw_rs ?_
     refine .mv rfl (by rfl) ?_
     refine .v (f_load (n := 0) (o := 7) (off := 0) (p := []) (c := .d (eGAccount y12.1)) (z := .d (eGAccount y12.1)) (by rfl) rfl ty95 (by rfl)) rfl (.c rfl .nil) (.cons rfl .nil) ?_
     refine .mv rfl (by rfl) ?_
     refine .v (f_binI (by rfl) rfl (by rfl)) rfl (.c rfl (.c rfl .nil)) .nil ?_
     refine R.yield (L := 1099) (r := lp3) (ns2 := Tryd.f67.ntmps) (xs := [.d (eGAccount y12.1), .d (.val (.bool (y12.2 == (0 : Int))))]) (wanted_plain rfl) (by rfl) rfl rfl hst3 (by rw [hps3]; rfl) rfl (by rfl) (.c rfl (.c rfl .nil)) hpin3 (by rw [hps3]; rfl) ?_
     intro C14 Y14 A14 hr14 hh14 hk14 hp14 he14 hn14
     refine aw_code has3 ?_
     rw [hps3]
     refine aw_r ?_
     refine .as rfl (by rfl) ?_
     refine .nil ?_
     refine hn14 _ rfl ?_
     refine aw_code hbd3 ?_
     refine aw_block ?_
     refine aw_rs ?_
     refine .mv rfl (by rfl) ?_
     refine .v (f_not (by rfl)) rfl (.c rfl .nil) .nil ?_
     refine .nil (aq_then ?_)
     refine aw_cond rfl (fun hc15 => ?_) (fun hc15 => ?_)
     · replace h := ite_t hc15 h
       refine aw_rs ?_
       refine .s (f_store (n := 0) (o := 2) (off := 0) (p := []) (c := .d (.val (.int .i64 (0 : Int)))) (old := .d (.val (.int .i64 (0 : Int)))) (z := .d (.val (.int .i64 (8 : Int)))) (c' := .d (.val (.int .i64 (8 : Int)))) rfl rfl (by rfl) ty29 (by rfl)) rfl (.c rfl (.c rfl .nil)) (.cons rfl .nil) ?_
       refine .nil (aq_then ?_)
       refine aw_ret ?_
       refine aq_block_ret ?_
       refine he14 .ret (some .ret) _ rfl rfl rfl ?_
       refine .v (f_not (by rfl)) rfl (.c rfl .nil) .nil ?_
       refine .nil (aq_then ?_)
       refine aw_cond rfl (fun _ => ?_) (fun hx => absurd (hx.symm.trans (not_t rfl)) (by simp))
       refine aw_ret ?_
       refine aq_block_ret ?_
       refine aq_then_ret ?_
       obtain rfl := Option.some.inj h
       refine aq_weak (s' := ⟨[], [(1, .av (.d (eGTree a0))), (2, .av (.d (.val (.int .i64 (8 : Int))))), (1098, .av (.d (eGTree y1))), (1099, .raw (.loop { lp3 with state := .done, pending := some .ret })), (1100, .raw (.deferred (some [])))], []⟩) id hb3 .nil (.keep rfl (.keep rfl (.keep rfl (.keepH rfl (.keepH rfl .nil))))) rfl (by rfl) ?_
       exact jq
     replace h := ite_f hc15 h
     refine aw_skip ?_
     refine aq_block ?_
     refine he14 .normal none _ rfl rfl rfl ?_
     refine R.again hst3 hpd3 ?_
     refine .v (f_not (by rfl)) rfl (.c rfl .nil) .nil ?_
     refine .nil (aq_then ?_)
     refine aw_cond rfl (fun hx => absurd (hx.symm.trans (not_f rfl)) (by simp)) (fun _ => ?_)
     refine aw_skip ?_
     refine aq_block ?_
     refine aq_then ?_
     refine aw_r ?_
     refine .v (f_binI (by rfl) rfl (by rfl)) rfl (.c rfl (.c rfl .nil)) .nil ?_
     refine .mv rfl (by rfl) ?_
     refine .nil ?_
     obtain rfl := Option.some.inj h
     refine aq_weak (s' := ⟨[(0, .yld 1099), (19, .d (eL175 y4.1)), (20, .d (.val (.int .i64 ((y4.1).length : Int)))), (21, .d (.val (.int .i64 (IntKind.i64.wrap (z0_0 + (1 : Int))))))], [(1099, .raw (.loop lp3)), (1, .av (.d (eGTree a0))), (2, .av (.d (.val (.int .i64 (0 : Int))))), (1098, .av (.d (eGTree y1))), (1100, .raw (.deferred (some [])))], []⟩) id hb3 (.keep rfl (.keep rfl (.keep rfl (.keep rfl .nil)))) (.keepH rfl (.keep rfl (.keep rfl (.keep rfl (.keepH rfl .nil))))) rfl (by rfl) ?_
     exact jq
   replace h := ite_f hc8 h
   refine aw_exit ?_
   refine aq_then_exit ?_
   obtain rfl := Option.some.inj h
   refine aq_weak (s' := ⟨[], [(1, .av (.d (eGTree a0))), (2, .av (.d (.val (.int .i64 (0 : Int))))), (1098, .av (.d (eGTree y1))), (1099, .raw (.loop lp3)), (1100, .raw (.deferred (some [])))], []⟩) id hb3 .nil (.keep rfl (.keep rfl (.keep rfl (.keepH rfl (.keepH rfl .nil))))) rfl (by rfl) ?_
   exact jq
 rcases o16 with j16 | j16
 · replace h := elim_l h
   refine aq_block_exit ?_
   refine hend3 .normal _ lp3.state lp3.pending (.inr rfl) rfl rfl (by rw [hst3]; simp) ?_
   rw [hpd3]
   refine aq_block ?_
   refine aq_then ?_
   refine aw_rs ?_
   refine .s (f_store (n := 0) (o := 2) (off := 0) (p := []) (c := .d (.val (.int .i64 (0 : Int)))) (old := .d (.val (.int .i64 (0 : Int)))) (z := .d (.val (.int .i64 (0 : Int)))) (c' := .d (.val (.int .i64 (0 : Int)))) rfl rfl (by rfl) ty29 (by rfl)) rfl (.c rfl (.c rfl .nil)) (.cons rfl .nil) ?_
   refine .nil (aq_then ?_)
   refine aw_ret ?_
   obtain rfl := Option.some.inj h
   refine aq_marks (.inl rfl) ⟨rfl, trivial⟩ ?_
   exact aq_finp hb0 rfl (.cell rfl rfl ty29 (by rfl) .nil) (by rfl) rfl ⟨rfl, rfl⟩
 replace h := elim_r h
 refine aq_block_ret ?_
 refine hend3 .ret _ .done (some .ret) (.inl rfl) rfl rfl (by simp) ?_
 show AW _ .ret _ _
 refine aw_ret ?_
 refine aq_block_ret ?_
 refine aq_then_ret ?_
 obtain rfl := Option.some.inj h
 refine aq_marks (.inl rfl) ⟨rfl, trivial⟩ ?_
 exact aq_finp hb0 rfl (.cell rfl rfl ty29 (by rfl) .nil) (by rfl) rfl ⟨rfl, rfl⟩

/- 64: beadroll/acct.Get -/
def F64_acct_Get (n : Nat) (a0 : GTree) (a1 : (List Int)) : Option (GAccount × Int) :=
  ((F67_acct_Check n a0).bind fun (y1 : Int) => (if (y1 != (0 : Int)) = true then some ((⟨(0 : Int), (0 : Int)⟩ : GAccount), y1) else ((F103_tree_Get n a0 a1).bind fun (y4 : (List Int) × Bool) => (if (!y4.2) = true then some ((⟨(0 : Int), (0 : Int)⟩ : GAccount), (0 : Int)) else ((F104_acct_Read n y4.1).bind fun (y7 : GAccount × Int) => some (y7.1, y7.2))))))
theorem F64_acct_Get_ok {n : Nat} {a0 : GTree} {a1 : (List Int)} {r : GAccount × Int} (h : F64_acct_Get n a0 a1 = some r) :
    ACall Tryd.prog GS 64 [.d (eGTree a0), .d (eA22 a1)] [] (fun r' hp' => r' = .res [.d (eGAccount r.1), .d (.val (.int .i64 r.2))] ∧ hp' = []) := by
 refine acall_of_body mixed Tryd.func64 rfl (by rfl) ?_
 intro C hro hgl hb0
 unfold F64_acct_Get at h
 refine aw_rs ?_
 refine .n (f_box 2 (by rfl) (by rfl)) rfl (.c rfl .nil) rfl ?_
 refine .n (f_box 3 (by rfl) (by rfl)) rfl (.c rfl .nil) rfl ?_
 refine .n (f_alloc 4 (by rfl) zr95) rfl .nil rfl ?_
 refine .as rfl (by rfl) ?_
 refine .nil (aq_then ?_)
 refine aw_seq ?_
 refine aw_rs ?_
 refine .v (f_load (n := 0) (o := 2) (off := 0) (p := []) (c := .d (eGTree a0)) (z := .d (eGTree a0)) (by rfl) rfl ty90 (by rfl)) rfl (.c rfl .nil) (.cons rfl .nil) ?_
 obtain ⟨y1, hy2, h⟩ := bind_some h
 refine .v (f_callP hgl (by rfl) en67 rfl (by rfl) (by rfl) (by rfl) (F67_acct_Check_ok hy2)) rfl (.c rfl .nil) .nil ?_
 refine .as rfl (by rfl) ?_
 refine .nil (aq_then ?_)
 refine aw_rs ?_
 refine .mv rfl (by rfl) ?_
 refine .v (f_binI (by rfl) rfl (by rfl)) rfl (.c rfl (.c rfl .nil)) .nil ?_
 refine .nil (aq_then ?_)
 refine aw_cond rfl (fun hc3 => ?_) (fun hc3 => ?_)
 · replace h := ite_t hc3 h
   refine aw_rs ?_
   refine .v (f_build (xs := []) (z' := .d (eGAccount (⟨(0 : Int), (0 : Int)⟩ : GAccount))) (by rfl) zr95 ag95 rfl (by rfl) trivial (by rfl) (by rfl)) rfl .nil .nil ?_
   refine .mv rfl (by rfl) ?_
   refine .s (f_store (n := 0) (o := 4) (off := 0) (p := []) (c := .d (eGAccount (⟨(0 : Int), (0 : Int)⟩ : GAccount))) (old := .d (eGAccount (⟨(0 : Int), (0 : Int)⟩ : GAccount))) (z := .d (eGAccount (⟨(0 : Int), (0 : Int)⟩ : GAccount))) (c' := .d (eGAccount (⟨(0 : Int), (0 : Int)⟩ : GAccount))) rfl rfl (by rfl) ty95 (by rfl)) rfl (.c rfl (.c rfl .nil)) (.cons rfl .nil) ?_
   refine .as rfl (by rfl) ?_
   refine .nil (aq_then ?_)
   refine aw_ret ?_
   refine aq_then_ret ?_
   obtain rfl := Option.some.inj h
   exact aq_finp hb0 rfl (.cell rfl rfl ty95 (by rfl) (.tmp rfl (by rfl) .nil)) (by rfl) rfl ⟨rfl, rfl⟩
 replace h := ite_f hc3 h
 refine aw_skip ?_
 refine aq_then ?_
 refine aw_rs ?_
 refine .v (f_load (n := 0) (o := 2) (off := 0) (p := []) (c := .d (eGTree a0)) (z := .d (eGTree a0)) (by rfl) rfl ty90 (by rfl)) rfl (.c rfl .nil) (.cons rfl .nil) ?_
 refine .v (f_load (n := 0) (o := 3) (off := 0) (p := []) (c := .d (eA22 a1)) (z := .d (eA22 a1)) (by rfl) rfl ty23 (by rfl)) rfl (.c rfl .nil) (.cons rfl .nil) ?_
 obtain ⟨y4, hy5, h⟩ := bind_some h
 refine .v (f_callP hgl (by rfl) en103 rfl (by rfl) (by rfl) (by rfl) (F103_tree_Get_ok hy5)) rfl (.c rfl (.c rfl .nil)) .nil ?_
 refine .mv rfl (by rfl) ?_
 refine .v (f_extract (by rfl) rfl) rfl (.c rfl .nil) .nil ?_
 refine .v (f_extract (by rfl) rfl) rfl (.c rfl .nil) .nil ?_
 refine .as rfl (by rfl) ?_
 refine .as rfl (by rfl) ?_
 refine .nil (aq_then ?_)
 refine aw_seq ?_
 refine aw_rs ?_
 refine .mv rfl (by rfl) ?_
 refine .v (f_not (by rfl)) rfl (.c rfl .nil) .nil ?_
 refine .nil (aq_then ?_)
 refine aw_cond rfl (fun hc6 => ?_) (fun hc6 => ?_)
 · replace h := ite_t hc6 h
   refine aw_rs ?_
   refine .v (f_build (xs := []) (z' := .d (eGAccount (⟨(0 : Int), (0 : Int)⟩ : GAccount))) (by rfl) zr95 ag95 rfl (by rfl) trivial (by rfl) (by rfl)) rfl .nil .nil ?_
   refine .s (f_store (n := 0) (o := 4) (off := 0) (p := []) (c := .d (eGAccount (⟨(0 : Int), (0 : Int)⟩ : GAccount))) (old := .d (eGAccount (⟨(0 : Int), (0 : Int)⟩ : GAccount))) (z := .d (eGAccount (⟨(0 : Int), (0 : Int)⟩ : GAccount))) (c' := .d (eGAccount (⟨(0 : Int), (0 : Int)⟩ : GAccount))) rfl rfl (by rfl) ty95 (by rfl)) rfl (.c rfl (.c rfl .nil)) (.cons rfl .nil) ?_
   refine .as rfl (by rfl) ?_
   refine .nil (aq_then ?_)
   refine aw_ret ?_
   refine aq_then_ret ?_
   obtain rfl := Option.some.inj h
   exact aq_finp hb0 rfl (.cell rfl rfl ty95 (by rfl) (.tmp rfl (by rfl) .nil)) (by rfl) rfl ⟨rfl, rfl⟩
 replace h := ite_f hc6 h
 refine aw_skip ?_
 refine aq_then ?_
 refine aw_rs ?_
 refine .mv rfl (by rfl) ?_
 obtain ⟨y7, hy8, h⟩ := bind_some h
 refine .v (f_callP hgl (by rfl) en104 rfl (by rfl) (by rfl) (by rfl) (F104_acct_Read_ok hy8)) rfl (.c rfl .nil) .nil ?_
 refine .v (f_extract (by rfl) rfl) rfl (.c rfl .nil) .nil ?_
 refine .v (f_extract (by rfl) rfl) rfl (.c rfl .nil) .nil ?_
 refine .s (f_store (n := 0) (o := 4) (off := 0) (p := []) (c := .d (eGAccount (⟨(0 : Int), (0 : Int)⟩ : GAccount))) (old := .d (eGAccount (⟨(0 : Int), (0 : Int)⟩ : GAccount))) (z := .d (eGAccount y7.1)) (c' := .d (eGAccount y7.1)) rfl rfl (by rfl) ty95 (by rfl)) rfl (.c rfl (.c rfl .nil)) (.cons rfl .nil) ?_
 refine .as rfl (by rfl) ?_
 refine .nil (aq_then ?_)
 refine aw_ret ?_
 obtain rfl := Option.some.inj h
 exact aq_finp hb0 rfl (.cell rfl rfl ty95 (by rfl) (.tmp rfl (by rfl) .nil)) (by rfl) rfl ⟨rfl, rfl⟩

/- 17: beadroll/queue.Past -/
def F17_queue_Past (n : Nat) (a0 : GLine) (a1 : Int) : Option (GLine × (List GTx) × Int) :=
  ((F18_queue_Check n a0).bind fun (y1 : Int) => (if (y1 != (0 : Int)) = true then some ((⟨(List.replicate 32 (0 : Int)), []⟩ : GLine), [], y1) else ((F74_queue_nonces n a0).bind fun (y4 : (List GTx)) => ((F75_api_Tx_ahead_844 n y4 a1).bind fun (y6 : Int) => (if 0 ≤ y6 ∧ y6 ≤ ((a0.Txs).length : Int) ∧ ((a0.Txs).length : Int) ≤ ((a0.Txs).length : Int) then ((F76_Clone n ((a0.Txs).drop (y6).toNat)).bind fun (y9 : List GTx) => (if 0 ≤ (0 : Int) ∧ (0 : Int) ≤ y6 ∧ y6 ≤ ((a0.Txs).length : Int) then ((F76_Clone n ((a0.Txs).take (y6).toNat)).bind fun (y12 : List GTx) => some ((⟨a0.From, y9⟩ : GLine), y12, (0 : Int))) else none)) else none)))))
theorem F17_queue_Past_ok {n : Nat} {a0 : GLine} {a1 : Int} {r : GLine × (List GTx) × Int} (h : F17_queue_Past n a0 a1 = some r) :
    ACall Tryd.prog GS 17 [.d (eGLine a0), .d (.val (.int .u64 a1))] [] (fun r' hp' => r' = .res [.d (eGLine r.1), .d (eL24 r.2.1), .d (.val (.int .i64 r.2.2))] ∧ hp' = []) := by
 refine acall_of_body mixed Tryd.func17 rfl (by rfl) ?_
 intro C hro hgl hb0
 unfold F17_queue_Past at h
 refine aw_rs ?_
 refine .n (f_box 2 (by rfl) (by rfl)) rfl (.c rfl .nil) rfl ?_
 refine .n (f_alloc 4 (by rfl) zrv26) rfl .nil rfl ?_
 refine .as rfl (by rfl) ?_
 refine .as rfl (by rfl) ?_
 refine .nil (aq_then ?_)
 refine aw_seq ?_
 refine aw_rs ?_
 refine .v (f_load (n := 0) (o := 2) (off := 0) (p := []) (c := .d (eGLine a0)) (z := .d (eGLine a0)) (by rfl) rfl ty26 (by rfl)) rfl (.c rfl .nil) (.cons rfl .nil) ?_
 obtain ⟨y1, hy2, h⟩ := bind_some h
 refine .v (f_callP hgl (by rfl) en18 rfl (by rfl) (by rfl) (by rfl) (F18_queue_Check_ok hy2)) rfl (.c rfl .nil) .nil ?_
 refine .as rfl (by rfl) ?_
 refine .nil (aq_then ?_)
 refine aw_rs ?_
 refine .mv rfl (by rfl) ?_
 refine .v (f_binI (by rfl) rfl (by rfl)) rfl (.c rfl (.c rfl .nil)) .nil ?_
 refine .nil (aq_then ?_)
 refine aw_cond rfl (fun hc3 => ?_) (fun hc3 => ?_)
 · replace h := ite_t hc3 h
   refine aw_rs ?_
   refine .v (f_load (n := 0) (o := 4) (off := 0) (p := []) (c := .st [.d (eA22 (List.replicate 32 (0 : Int))), .d (.val (.slice none 0 0))]) (z := .st [.d (eA22 (List.replicate 32 (0 : Int))), .d (.val (.slice none 0 0))]) (by rfl) rfl ty26 (by rfl)) rfl (.c rfl .nil) (.cons rfl .nil) ?_
   refine .mv rfl (by rfl) ?_
   refine .s (f_store (n := 0) (o := 4) (off := 0) (p := []) (c := .st [.d (eA22 (List.replicate 32 (0 : Int))), .d (.val (.slice none 0 0))]) (old := .st [.d (eA22 (List.replicate 32 (0 : Int))), .d (.val (.slice none 0 0))]) (z := .st [.d (eA22 (List.replicate 32 (0 : Int))), .d (.val (.slice none 0 0))]) (c' := .st [.d (eA22 (List.replicate 32 (0 : Int))), .d (.val (.slice none 0 0))]) rfl rfl (by rfl) ty26 (by rfl)) rfl (.c rfl (.c rfl .nil)) (.cons rfl .nil) ?_
   refine .as rfl (by rfl) ?_
   refine .as rfl (by rfl) ?_
   refine .nil (aq_then ?_)
   refine aw_ret ?_
   refine aq_then_ret ?_
   obtain rfl := Option.some.inj h
   refine aq_freezeH [] [(4, .ptr 4 0 []), (5, .d (eL24 ([]))), (6, .d (.val (.int .i64 y1)))] [(4, .av (.d (eGLine (⟨(List.replicate 32 (0 : Int)), []⟩ : GLine))))] .nil (.keep rfl (.cons rfl .nil (.keep rfl .nil))) (.cons rfl (by rfl) (.st (.cons (.same _) (.cons .nil .nil))) .nil) ?_
   exact aq_finp hb0 rfl (.cell rfl rfl ty26 (by rfl) (.tmp rfl (by rfl) (.tmp rfl (by rfl) .nil))) (by rfl) rfl ⟨rfl, rfl⟩
 replace h := ite_f hc3 h
 refine aw_skip ?_
 refine aq_then ?_
 refine aw_rs ?_
 refine .v (f_load (n := 0) (o := 2) (off := 0) (p := []) (c := .d (eGLine a0)) (z := .d (eGLine a0)) (by rfl) rfl ty26 (by rfl)) rfl (.c rfl .nil) (.cons rfl .nil) ?_
 obtain ⟨y4, hy5, h⟩ := bind_some h
 refine .w (f_callG (xs := [.d (eGLine a0)]) (r := .st [.d (eL24 y4), .fn (.func 111) [] []]) (hw := [(1103, .av (.st [.d (eL24 y4), .fn (.func 111) [] []]))]) (fun i => bif Nat.beq i 2 then 1103 else i) [] hgl (by rfl) (cal_f en74) rfl (by rfl) (by rfl) (by rfl) (by rfl) (.cons (.same _) .nil) rfl rfl rfl rfl (F74_queue_nonces_ok hy5)) rfl (.c rfl .nil) .nil (.cons rfl .nil) ?_
 refine .mv rfl (by rfl) ?_
 obtain ⟨y6, hy7, h⟩ := bind_some h
 refine .w (f_callG0 (xs := [.st [.d (eL24 y4), .fn (.func 111) [] []], .d (.val (.int .u64 a1))]) (r := .d (.val (.int .i64 y6))) (fun i => i) [] hgl (by rfl) (cal_f en75) rfl (by rfl) (by rfl) (by rfl) (by rfl) (.cons (.same _) (.cons (.same _) .nil)) rfl rfl (F75_api_Tx_ahead_844_ok hy7)) rfl (.c rfl (.c rfl .nil)) .nil .nil ?_
 refine .as rfl (by rfl) ?_
 refine .nil (aq_then ?_)
 refine aw_rds ?_
 refine .v (f_fieldAddr (n := 0) (by rfl) fl26_0 (by decide)) rfl (.c rfl .nil) .nil ?_
 refine .v (f_load (n := 0) (o := 2) (off := (0 + 0)) (p := [0]) (c := .d (eGLine a0)) (z := .d (eA22 a0.From)) (by rfl) rfl ty23 (by rfl)) rfl (.c rfl .nil) (.cons rfl .nil) ?_
 refine .v (f_fieldAddr (n := 32) (by rfl) fl26_1 (by decide)) rfl (.c rfl .nil) .nil ?_
 refine .v (f_load (n := 0) (o := 2) (off := (0 + 32)) (p := [1]) (c := .d (eGLine a0)) (z := .d (eL24 a0.Txs)) (by rfl) rfl ty24 (by rfl)) rfl (.c rfl .nil) (.cons rfl .nil) ?_
 refine .v (f_move (by rfl)) rfl (.c rfl .nil) .nil ?_
 obtain ⟨hb8, h⟩ := ifp h
 refine .v (f_sliceD (k1 := .i64) (k2 := .i64) (i := y6) (j := ((a0.Txs).length : Int)) (xs := (a0.Txs).map eGTx) (zs := ((a0.Txs).drop (y6).toNat).map eGTx) (by rfl) sl24 (by intro hx; first | rfl | cases hx) (by intro hx; first | (simp; done) | cases hx) hb8.1 hb8.2.1 (by rw [List.length_map]; exact hb8.2.2) (by simp [List.map_take, List.map_drop, List.take_of_length_le])) rfl (.c rfl (.c rfl .nil)) .nil ?_
 obtain ⟨y9, hy10, h⟩ := bind_some h
 refine .w (f_callG (xs := [.d (eL24 ((a0.Txs).drop (y6).toNat))]) (r := .slc 1104 0 ((y9).length) 99) (hw := [(1104, .av (.d (.arr 99 ((y9).length) ((y9).map eGTx))))]) (fun i => bif Nat.beq i 0 then 1104 else i) [] hgl (by rfl) (cal_f en76) rfl (by rfl) (by rfl) (by rfl) (by rfl) (.cons (.same _) .nil) rfl rfl rfl rfl (F76_Clone_ok hy10)) rfl (.c rfl .nil) .nil (.cons rfl .nil) ?_
 refine .v (f_build (xs := [(0, .d (eA22 a0.From)), (1, .slc 1104 0 ((y9).length) 99)]) (z' := .st [.d (eA22 a0.From), .slc 1104 0 ((y9).length) 99]) (by rfl) zrv26 ag26 rfl (by rfl) ⟨_, _, _, rfl, pl26_0, rfl, rfl, ⟨_, _, _, rfl, pl26_1, rfl, rfl, trivial⟩⟩ (by rfl) (by rfl)) rfl (.c rfl (.c rfl .nil)) .nil ?_
 refine .v (f_fieldAddr (n := 32) (by rfl) fl26_1 (by decide)) rfl (.c rfl .nil) .nil ?_
 refine .v (f_load (n := 0) (o := 2) (off := (0 + 32)) (p := [1]) (c := .d (eGLine a0)) (z := .d (eL24 a0.Txs)) (by rfl) rfl ty24 (by rfl)) rfl (.c rfl .nil) (.cons rfl .nil) ?_
 refine .v (f_move (by rfl)) rfl (.c rfl .nil) .nil ?_
 obtain ⟨hb11, h⟩ := ifp h
 refine .v (f_sliceD (k1 := .i64) (k2 := .i64) (i := (0 : Int)) (j := y6) (xs := (a0.Txs).map eGTx) (zs := ((a0.Txs).take (y6).toNat).map eGTx) (by rfl) sl24 (by intro hx; first | rfl | cases hx) (by intro hx; first | (simp; done) | cases hx) hb11.1 hb11.2.1 (by rw [List.length_map]; exact hb11.2.2) (by simp [List.map_take, List.map_drop, List.take_of_length_le])) rfl (.c rfl (.c rfl .nil)) .nil ?_
 obtain ⟨y12, hy13, h⟩ := bind_some h
 refine .w (f_callG (xs := [.d (eL24 ((a0.Txs).take (y6).toNat))]) (r := .slc 1105 0 ((y12).length) 99) (hw := [(1105, .av (.d (.arr 99 ((y12).length) ((y12).map eGTx))))]) (fun i => bif Nat.beq i 0 then 1105 else i) [] hgl (by rfl) (cal_f en76) rfl (by rfl) (by rfl) (by rfl) (by rfl) (.cons (.same _) .nil) rfl rfl rfl rfl (F76_Clone_ok hy13)) rfl (.c rfl .nil) .nil (.cons rfl .nil) ?_
 refine .s (f_store (n := 0) (o := 4) (off := 0) (p := []) (c := .st [.d (eA22 (List.replicate 32 (0 : Int))), .d (.val (.slice none 0 0))]) (old := .st [.d (eA22 (List.replicate 32 (0 : Int))), .d (.val (.slice none 0 0))]) (z := .st [.d (eA22 a0.From), .slc 1104 0 ((y9).length) 99]) (c' := .st [.d (eA22 a0.From), .slc 1104 0 ((y9).length) 99]) rfl rfl (by rfl) ty26 (by rfl)) rfl (.c rfl (.c rfl .nil)) (.cons rfl .nil) ?_
 refine .v (f_assign (by rfl)) rfl (.c rfl .nil) .nil ?_
 refine .v (f_assign (by rfl)) rfl (.c rfl .nil) .nil ?_
 refine .nil (by kernel_rfl) ?_
 refine aw_ret ?_
 obtain rfl := Option.some.inj h
 refine aq_freezeH [(1105, (.arr 99 ((y12).length) ((y12).map eGTx))), (1104, (.arr 99 ((y9).length) ((y9).map eGTx)))] [(4, .ptr 4 0 []), (5, .d (eL24 y12)), (6, .d (.val (.int .i64 (0 : Int))))] [(4, .av (.d (eGLine (⟨a0.From, y9⟩ : GLine))))] (.cons rfl (.cons rfl .nil)) (.keep rfl (.cons rfl (.whole (.head _)) (.keep rfl .nil))) (.cons rfl (by rfl) (.st (.cons (.same _) (.cons (.whole (.tail _ (.head _))) .nil))) .nil) ?_
 exact aq_finp hb0 rfl (.cell rfl rfl ty26 (by rfl) (.tmp rfl (by rfl) (.tmp rfl (by rfl) .nil))) (by rfl) rfl ⟨rfl, rfl⟩

/- 65: beadroll/shard.Draw -/
def F65_shard_Draw_s0 (n : Nat) (a0 : GShard) (a1 : GTree) (a2 : Int) (z0_0 : Int) (z0_1 : List GTx) (z0_2 : List GLine) : Option ((Int × List GTx × List GLine) ⊕ (List GTx × List GLine)) :=
  (if (decide (z0_0 < ((a0.Lines).length : Int))) = true then ((rd a0.Lines z0_0).bind fun (x11 : GLine) => ((F64_acct_Get n a1 x11.From).bind fun (y14 : GAccount × Int) => ((F17_queue_Past n x11 y14.1.Nonce).bind fun (y16 : GLine × (List GTx) × Int) => ((F16_queue_Ready n y16.1 y14.1.Nonce).bind fun (y18 : (List GTx) × Int) => (if 0 ≤ (0 : Int) ∧ (0 : Int) ≤ (if (if (IntKind.i64.wrap (a2 - ((z0_1).length : Int))) < ((y18.1).length : Int) then (IntKind.i64.wrap (a2 - ((z0_1).length : Int))) else ((y18.1).length : Int)) > (0 : Int) then (if (IntKind.i64.wrap (a2 - ((z0_1).length : Int))) < ((y18.1).length : Int) then (IntKind.i64.wrap (a2 - ((z0_1).length : Int))) else ((y18.1).length : Int)) else (0 : Int)) ∧ (if (if (IntKind.i64.wrap (a2 - ((z0_1).length : Int))) < ((y18.1).length : Int) then (IntKind.i64.wrap (a2 - ((z0_1).length : Int))) else ((y18.1).length : Int)) > (0 : Int) then (if (IntKind.i64.wrap (a2 - ((z0_1).length : Int))) < ((y18.1).length : Int) then (IntKind.i64.wrap (a2 - ((z0_1).length : Int))) else ((y18.1).length : Int)) else (0 : Int)) ≤ ((y18.1).length : Int) then (if ((z0_1 ++ ((y18.1).take ((if (if (IntKind.i64.wrap (a2 - ((z0_1).length : Int))) < ((y18.1).length : Int) then (IntKind.i64.wrap (a2 - ((z0_1).length : Int))) else ((y18.1).length : Int)) > (0 : Int) then (if (IntKind.i64.wrap (a2 - ((z0_1).length : Int))) < ((y18.1).length : Int) then (IntKind.i64.wrap (a2 - ((z0_1).length : Int))) else ((y18.1).length : Int)) else (0 : Int))).toNat))).length ≤ 1073741824 then (if 0 ≤ ((((y18.1).take ((if (if (IntKind.i64.wrap (a2 - ((z0_1).length : Int))) < ((y18.1).length : Int) then (IntKind.i64.wrap (a2 - ((z0_1).length : Int))) else ((y18.1).length : Int)) > (0 : Int) then (if (IntKind.i64.wrap (a2 - ((z0_1).length : Int))) < ((y18.1).length : Int) then (IntKind.i64.wrap (a2 - ((z0_1).length : Int))) else ((y18.1).length : Int)) else (0 : Int))).toNat)).length : Int) ∧ ((((y18.1).take ((if (if (IntKind.i64.wrap (a2 - ((z0_1).length : Int))) < ((y18.1).length : Int) then (IntKind.i64.wrap (a2 - ((z0_1).length : Int))) else ((y18.1).length : Int)) > (0 : Int) then (if (IntKind.i64.wrap (a2 - ((z0_1).length : Int))) < ((y18.1).length : Int) then (IntKind.i64.wrap (a2 - ((z0_1).length : Int))) else ((y18.1).length : Int)) else (0 : Int))).toNat)).length : Int) ≤ ((y16.1.Txs).length : Int) ∧ ((y16.1.Txs).length : Int) ≤ ((y16.1.Txs).length : Int) then ((F95_shard_part_set_ddb n ({ y16.1 with Txs := ((y16.1.Txs).drop (((((y18.1).take ((if (if (IntKind.i64.wrap (a2 - ((z0_1).length : Int))) < ((y18.1).length : Int) then (IntKind.i64.wrap (a2 - ((z0_1).length : Int))) else ((y18.1).length : Int)) > (0 : Int) then (if (IntKind.i64.wrap (a2 - ((z0_1).length : Int))) < ((y18.1).length : Int) then (IntKind.i64.wrap (a2 - ((z0_1).length : Int))) else ((y18.1).length : Int)) else (0 : Int))).toNat)).length : Int)).toNat) }) z0_2).bind fun (y23 : List GLine) => some (.inl ((IntKind.i64.wrap (z0_0 + (1 : Int))), (z0_1 ++ ((y18.1).take ((if (if (IntKind.i64.wrap (a2 - ((z0_1).length : Int))) < ((y18.1).length : Int) then (IntKind.i64.wrap (a2 - ((z0_1).length : Int))) else ((y18.1).length : Int)) > (0 : Int) then (if (IntKind.i64.wrap (a2 - ((z0_1).length : Int))) < ((y18.1).length : Int) then (IntKind.i64.wrap (a2 - ((z0_1).length : Int))) else ((y18.1).length : Int)) else (0 : Int))).toNat)), y23))) else none) else none) else none))))) else some (.inr (z0_1, z0_2)))
def F65_shard_Draw (n : Nat) (a0 : GShard) (a1 : GTree) (a2 : Int) : Option (GShard × (List GTx) × Int) :=
  ((((F52_shard_Check n a0).bind fun (y1 : Int) => (if (y1 != (0 : Int)) = true then some true else ((F67_acct_Check n a1).bind fun (y4 : Int) => some (y4 != (0 : Int)))))).bind fun (o6 : Bool) => (if o6 = true then some ((⟨[]⟩ : GShard), [], (8 : Int)) else ((F61_shard_Twin n a0).bind fun (y8 : List GLine) => ((loopF (fun (z : Int × List GTx × List GLine) => F65_shard_Draw_s0 n a0 a1 a2 z.1 z.2.1 z.2.2) n ((0 : Int), ([] : List GTx), y8)).bind fun (o25 : List GTx × List GLine) => some ((⟨o25.2⟩ : GShard), o25.1, (0 : Int))))))
theorem F65_shard_Draw_ok {n : Nat} {a0 : GShard} {a1 : GTree} {a2 : Int} {r : GShard × (List GTx) × Int} (h : F65_shard_Draw n a0 a1 a2 = some r) :
    ACall Tryd.prog GS 65 [.d (eGShard a0), .d (eGTree a1), .d (.val (.int .i64 a2))] [] (fun r' hp' => r' = .res [.d (eGShard r.1), .d (eL24 r.2.1), .d (.val (.int .i64 r.2.2))] ∧ hp' = []) := by
 refine acall_of_body mixed Tryd.func65 rfl (by rfl) ?_
 intro C hro hgl hb0
 unfold F65_shard_Draw at h
 refine aw_rs ?_
 refine .n (f_box 3 (by rfl) (by rfl)) rfl (.c rfl .nil) rfl ?_
 refine .n (f_box 4 (by rfl) (by rfl)) rfl (.c rfl .nil) rfl ?_
 refine .n (f_alloc 6 (by rfl) zrv74) rfl .nil rfl ?_
 refine .as rfl (by rfl) ?_
 refine .as rfl (by rfl) ?_
 refine .nil (aq_then ?_)
 refine aw_seq ?_
 refine aw_seq ?_
 obtain ⟨o6, ho27, h⟩ := bind_some h
 refine aw_join (.normal) ⟨[(2, .d (.val (.int .i64 a2))), (3, .ptr 3 0 []), (4, .ptr 4 0 []), (6, .ptr 6 0 []), (7, .d (.val (.slice none 0 0))), (26, .d (.val (.bool o6)))], [(3, .av (.d (eGShard a0))), (4, .av (.d (eGTree a1))), (6, .av (.st [.d (.val (.slice none 0 0))]))], []⟩ ?_ ?_
 · replace h := ho27
   refine aw_r ?_
   refine .v (f_load (n := 0) (o := 3) (off := 0) (p := []) (c := .d (eGShard a0)) (z := .d (eGShard a0)) (by rfl) rfl ty74 (by rfl)) rfl (.c rfl .nil) (.cons rfl .nil) ?_
   obtain ⟨y1, hy2, h⟩ := bind_some h
   refine .v (f_callP hgl (by rfl) en52 rfl (by rfl) (by rfl) (by rfl) (F52_shard_Check_ok hy2)) rfl (.c rfl .nil) .nil ?_
   refine .v (f_binI (by rfl) rfl (by rfl)) rfl (.c rfl (.c rfl .nil)) .nil ?_
   refine .mv rfl (by rfl) ?_
   rcases Bool.eq_false_or_eq_true (y1 != (0 : Int)) with hc3 | hc3
   · replace h := ite_t hc3 h
     refine .off rfl rfl rfl hc3 rfl (by rfl) ?_
     refine .off rfl rfl rfl hc3 rfl (by rfl) ?_
     refine .off rfl rfl rfl hc3 rfl (by rfl) ?_
     refine .v (f_pick_true (by rfl) hc3) rfl (.c rfl (.c rfl .nil)) .nil ?_
     refine .nil ?_
     obtain rfl := Option.some.inj h
     refine aq_weak (s' := ⟨[(2, .d (.val (.int .i64 a2))), (3, .ptr 3 0 []), (4, .ptr 4 0 []), (6, .ptr 6 0 []), (7, .d (.val (.slice none 0 0))), (26, .d (.val (.bool true)))], [(3, .av (.d (eGShard a0))), (4, .av (.d (eGTree a1))), (6, .av (.st [.d (.val (.slice none 0 0))]))], []⟩) id hb0 (.keep rfl (.keep rfl (.keep rfl (.keep rfl (.keep rfl (.keep rfl .nil)))))) (.keep rfl (.keep rfl (.keep rfl .nil))) rfl (by rfl) ?_
     exact jq
   replace h := ite_f hc3 h
   refine .gv (f_load (n := 0) (o := 4) (off := 0) (p := []) (c := .d (eGTree a1)) (z := .d (eGTree a1)) (by rfl) rfl ty90 (by rfl)) rfl rfl rfl hc3 (.c rfl .nil) (.cons rfl .nil) ?_
   obtain ⟨y4, hy5, h⟩ := bind_some h
   refine .gv (f_callP hgl (by rfl) en67 rfl (by rfl) (by rfl) (by rfl) (F67_acct_Check_ok hy5)) rfl rfl rfl hc3 (.c rfl .nil) .nil ?_
   refine .gv (f_binI (by rfl) rfl (by rfl)) rfl rfl rfl hc3 (.c rfl (.c rfl .nil)) .nil ?_
   refine .v (f_pick_false (by rfl) hc3) rfl (.c rfl (.c rfl .nil)) .nil ?_
   refine .nil ?_
   obtain rfl := Option.some.inj h
   refine aq_weak (s' := ⟨[(2, .d (.val (.int .i64 a2))), (3, .ptr 3 0 []), (4, .ptr 4 0 []), (6, .ptr 6 0 []), (7, .d (.val (.slice none 0 0))), (26, .d (.val (.bool (y4 != (0 : Int)))))], [(3, .av (.d (eGShard a0))), (4, .av (.d (eGTree a1))), (6, .av (.st [.d (.val (.slice none 0 0))]))], []⟩) id hb0 (.keep rfl (.keep rfl (.keep rfl (.keep rfl (.keep rfl (.keep rfl .nil)))))) (.keep rfl (.keep rfl (.keep rfl .nil))) rfl (by rfl) ?_
   exact jq
 refine aq_then ?_
 refine aw_cond rfl (fun hc7 => ?_) (fun hc7 => ?_)
 · replace h := ite_t hc7 h
   refine aw_rs ?_
   refine .v (f_load (n := 0) (o := 6) (off := 0) (p := []) (c := .st [.d (.val (.slice none 0 0))]) (z := .st [.d (.val (.slice none 0 0))]) (by rfl) rfl ty74 (by rfl)) rfl (.c rfl .nil) (.cons rfl .nil) ?_
   refine .s (f_store (n := 0) (o := 6) (off := 0) (p := []) (c := .st [.d (.val (.slice none 0 0))]) (old := .st [.d (.val (.slice none 0 0))]) (z := .st [.d (.val (.slice none 0 0))]) (c' := .st [.d (.val (.slice none 0 0))]) rfl rfl (by rfl) ty74 (by rfl)) rfl (.c rfl (.c rfl .nil)) (.cons rfl .nil) ?_
   refine .as rfl (by rfl) ?_
   refine .as rfl (by rfl) ?_
   refine .nil (aq_then ?_)
   refine aw_ret ?_
   refine aq_then_ret ?_
   obtain rfl := Option.some.inj h
   refine aq_freezeH [] [(6, .ptr 6 0 []), (7, .d (eL24 ([]))), (8, .d (.val (.int .i64 (8 : Int))))] [(6, .av (.d (eGShard (⟨[]⟩ : GShard))))] .nil (.keep rfl (.cons rfl .nil (.keep rfl .nil))) (.cons rfl (by rfl) (.st (.cons .nil .nil)) .nil) ?_
   exact aq_finp hb0 rfl (.cell rfl rfl ty74 (by rfl) (.tmp rfl (by rfl) (.tmp rfl (by rfl) .nil))) (by rfl) rfl ⟨rfl, rfl⟩
 replace h := ite_f hc7 h
 refine aw_skip ?_
 refine aq_then ?_
 refine aw_rs ?_
 refine .v (f_load (n := 0) (o := 3) (off := 0) (p := []) (c := .d (eGShard a0)) (z := .d (eGShard a0)) (by rfl) rfl ty74 (by rfl)) rfl (.c rfl .nil) (.cons rfl .nil) ?_
 obtain ⟨y8, hy9, h⟩ := bind_some h
 refine .w (f_callG (xs := [.d (eGShard a0)]) (r := .st [.slc 1102 0 ((y8).length) 33]) (hw := [(1101, .av (.st [.slc 1102 0 ((y8).length) 33])), (1102, .av (.d (.arr 33 ((y8).length) ((y8).map eGLine))))]) (fun i => bif Nat.beq i 1078 then 1102 else (bif Nat.beq i 2 then 1101 else i)) [] hgl (by rfl) (cal_f en61) rfl (by rfl) (by rfl) (by rfl) (by rfl) (.cons (.same _) .nil) rfl rfl rfl rfl (F61_shard_Twin_ok hy9)) rfl (.c rfl .nil) .nil (.cons rfl (.cons rfl .nil)) ?_
 refine .v (f_build (xs := [(0, .st [.slc 1102 0 ((y8).length) 33])]) (z' := .st [.st [.slc 1102 0 ((y8).length) 33]]) (by rfl) zrv132 ag132 rfl (by rfl) ⟨_, _, _, rfl, pl132_0, rfl, rfl, trivial⟩ (by rfl) (by rfl)) rfl (.c rfl .nil) .nil ?_
 refine .n (f_box 31 (by rfl) (by rfl)) rfl (.c rfl .nil) rfl ?_
 refine .as rfl (by rfl) ?_
 refine .nil (aq_then ?_)
 refine aw_seq ?_
 refine aw_rs ?_
 refine .v (f_fieldAddr (n := 0) (by rfl) fl74_0 (by decide)) rfl (.c rfl .nil) .nil ?_
 refine .v (f_load (n := 0) (o := 3) (off := (0 + 0)) (p := [0]) (c := .d (eGShard a0)) (z := .d (eL72 a0.Lines)) (by rfl) rfl ty72 (by rfl)) rfl (.c rfl .nil) (.cons rfl .nil) ?_
 refine .v (f_lenD (n := (a0.Lines).length) (by rfl) sl72 rfl (by simp)) rfl (.c rfl .nil) .nil ?_
 refine .mv rfl (by rfl) ?_
 refine .nil (aq_then ?_)
 refine aw_block ?_
 refine aw_adopt 7 1108 99 rfl rfl ?_
 refine aw_weak (s' := ⟨[(2, .d (.val (.int .i64 a2))), (4, .ptr 4 0 []), (6, .ptr 6 0 []), (7, .slc 1108 0 ((([] : List GTx)).length) 99), (9, .ptr 31 0 []), (33, .d (eL72 a0.Lines)), (34, .d (.val (.int .i64 ((a0.Lines).length : Int)))), (35, .d (.val (.int .i64 (0 : Int))))], [(4, .av (.d (eGTree a1))), (6, .av (.st [.d (.val (.slice none 0 0))])), (1108, .av (.d (.arr 99 ((([] : List GTx)).length) ((([] : List GTx)).map eGTx)))), (31, .av (.st [.st [.slc 1102 0 ((y8).length) 33]])), (1102, .av (.d (.arr 33 ((y8).length) ((y8).map eGLine))))], []⟩) id hb0 (.keep rfl (.keep rfl (.keep rfl (.keep (by simp only [List.length_set]; rfl) (.keep rfl (.keep rfl (.keep rfl (.keep rfl .nil)))))))) (.keep rfl (.keep rfl (.keep (by simp only [List.length_set]; rfl) (.keep rfl (.keep rfl .nil))))) rfl (by rfl) ?_
 obtain ⟨o25, ho26, h⟩ := bind_some h
 refine aw_loopX (σ := Int × List GTx × List GLine) (fun z => ⟨[(2, .d (.val (.int .i64 a2))), (4, .ptr 4 0 []), (6, .ptr 6 0 []), (7, .slc 1108 0 ((z.2.1).length) 99), (9, .ptr 31 0 []), (33, .d (eL72 a0.Lines)), (34, .d (.val (.int .i64 ((a0.Lines).length : Int)))), (35, .d (.val (.int .i64 z.1)))], [(4, .av (.d (eGTree a1))), (6, .av (.st [.d (.val (.slice none 0 0))])), (1108, .av (.d (.arr 99 ((z.2.1).length) ((z.2.1).map eGTx)))), (31, .av (.st [.st [.slc 1102 0 ((z.2.2).length) 33]])), (1102, .av (.d (.arr 33 ((z.2.2).length) ((z.2.2).map eGLine))))], []⟩) (fun _ => (.exit 0)) (fun (o25 : List GTx × List GLine) => ⟨[(6, .ptr 6 0 []), (7, .slc 1108 0 ((o25.1).length) 99), (9, .ptr 31 0 [])], [(6, .av (.st [.d (.val (.slice none 0 0))])), (1108, .av (.d (.arr 99 ((o25.1).length) ((o25.1).map eGTx)))), (31, .av (.st [.st [.slc 1102 0 ((o25.2).length) 33]])), (1102, .av (.d (.arr 33 ((o25.2).length) ((o25.2).map eGLine))))], []⟩) ho26 (fun _ => rfl) ?_ ?_
 · clear h ho26
   rintro ⟨z0_0, z0_1, z0_2⟩ o h
   change F65_shard_Draw_s0 n a0 a1 a2 z0_0 z0_1 z0_2 = some o at h
   unfold F65_shard_Draw_s0 at h
   show AW _ _ _ ⟨[(2, .d (.val (.int .i64 a2))), (4, .ptr 4 0 []), (6, .ptr 6 0 []), (7, .slc 1108 0 ((z0_1).length) 99), (9, .ptr 31 0 []), (33, .d (eL72 a0.Lines)), (34, .d (.val (.int .i64 ((a0.Lines).length : Int)))), (35, .d (.val (.int .i64 z0_0)))], [(4, .av (.d (eGTree a1))), (6, .av (.st [.d (.val (.slice none 0 0))])), (1108, .av (.d (.arr 99 ((z0_1).length) ((z0_1).map eGTx)))), (31, .av (.st [.st [.slc 1102 0 ((z0_2).length) 33]])), (1102, .av (.d (.arr 33 ((z0_2).length) ((z0_2).map eGLine))))], []⟩
   refine aw_rs ?_
   refine .v (f_binI (by rfl) rfl (by rfl)) rfl (.c rfl (.c rfl .nil)) .nil ?_
   refine .nil (aq_then ?_)
   refine aw_seq ?_
   refine aw_cond rfl (fun hc10 => ?_) (fun hc10 => ?_)
   · replace h := ite_t hc10 h
     refine aw_skip ?_
     refine aq_then ?_
     refine aw_seq ?_
     refine aw_block ?_
     refine aw_rs ?_
     obtain ⟨x11, hx12, h⟩ := bind_some h
     obtain ⟨hx13, hx12⟩ := rd_some hx12
     refine .v (f_indexS (by rfl) sl72 hx13 (rd_map _ hx12)) rfl (.c rfl (.c rfl .nil)) .nil ?_
     refine .v (f_loadR (z := (eGLine x11)) (by rfl) ty26) rfl (.c rfl .nil) .nil ?_
     refine .n (f_alloc 11 (by rfl) zrv26) rfl .nil rfl ?_
     refine .s (f_store (n := 0) (o := 11) (off := 0) (p := []) (c := .st [.d (eA22 (List.replicate 32 (0 : Int))), .d (.val (.slice none 0 0))]) (old := .st [.d (eA22 (List.replicate 32 (0 : Int))), .d (.val (.slice none 0 0))]) (z := .d (eGLine x11)) (c' := .d (eGLine x11)) rfl rfl (by rfl) ty26 (by rfl)) rfl (.c rfl (.c rfl .nil)) (.cons rfl .nil) ?_
     refine .nil (aq_then ?_)
     refine aw_rs ?_
     refine .v (f_load (n := 0) (o := 4) (off := 0) (p := []) (c := .d (eGTree a1)) (z := .d (eGTree a1)) (by rfl) rfl ty90 (by rfl)) rfl (.c rfl .nil) (.cons rfl .nil) ?_
     refine .v (f_fieldAddr (n := 0) (by rfl) fl26_0 (by decide)) rfl (.c rfl .nil) .nil ?_
     refine .v (f_load (n := 0) (o := 11) (off := (0 + 0)) (p := [0]) (c := .d (eGLine x11)) (z := .d (eA22 x11.From)) (by rfl) rfl ty23 (by rfl)) rfl (.c rfl .nil) (.cons rfl .nil) ?_
     obtain ⟨y14, hy15, h⟩ := bind_some h
     refine .v (f_callP hgl (by rfl) en64 rfl (by rfl) (by rfl) (by rfl) (F64_acct_Get_ok hy15)) rfl (.c rfl (.c rfl .nil)) .nil ?_
     refine .mv rfl (by rfl) ?_
     refine .v (f_extract (by rfl) rfl) rfl (.c rfl .nil) .nil ?_
     refine .v (f_extract (by rfl) rfl) rfl (.c rfl .nil) .nil ?_
     refine .n (f_alloc 12 (by rfl) zr95) rfl .nil rfl ?_
     refine .s (f_store (n := 0) (o := 12) (off := 0) (p := []) (c := .d (eGAccount (⟨(0 : Int), (0 : Int)⟩ : GAccount))) (old := .d (eGAccount (⟨(0 : Int), (0 : Int)⟩ : GAccount))) (z := .d (eGAccount y14.1)) (c' := .d (eGAccount y14.1)) rfl rfl (by rfl) ty95 (by rfl)) rfl (.c rfl (.c rfl .nil)) (.cons rfl .nil) ?_
     refine .as rfl (by rfl) ?_
     refine .nil (aq_then ?_)
     refine aw_rs ?_
     refine .v (f_load (n := 0) (o := 11) (off := 0) (p := []) (c := .d (eGLine x11)) (z := .d (eGLine x11)) (by rfl) rfl ty26 (by rfl)) rfl (.c rfl .nil) (.cons rfl .nil) ?_
     refine .v (f_fieldAddr (n := 0) (by rfl) fl95_0 (by decide)) rfl (.c rfl .nil) .nil ?_
     refine .v (f_load (n := 0) (o := 12) (off := (0 + 0)) (p := [0]) (c := .d (eGAccount y14.1)) (z := .d (.val (.int .u64 y14.1.Nonce))) (by rfl) rfl ty27 (by rfl)) rfl (.c rfl .nil) (.cons rfl .nil) ?_
     obtain ⟨y16, hy17, h⟩ := bind_some h
     refine .v (f_callP hgl (by rfl) en17 rfl (by rfl) (by rfl) (by rfl) (F17_queue_Past_ok hy17)) rfl (.c rfl (.c rfl .nil)) .nil ?_
     refine .mv rfl (by rfl) ?_
     refine .v (f_extract (by rfl) rfl) rfl (.c rfl .nil) .nil ?_
     refine .v (f_extract (by rfl) rfl) rfl (.c rfl .nil) .nil ?_
     refine .v (f_extract (by rfl) rfl) rfl (.c rfl .nil) .nil ?_
     refine .n (f_alloc 14 (by rfl) zrv26) rfl .nil rfl ?_
     refine .s (f_store (n := 0) (o := 14) (off := 0) (p := []) (c := .st [.d (eA22 (List.replicate 32 (0 : Int))), .d (.val (.slice none 0 0))]) (old := .st [.d (eA22 (List.replicate 32 (0 : Int))), .d (.val (.slice none 0 0))]) (z := .d (eGLine y16.1)) (c' := .d (eGLine y16.1)) rfl rfl (by rfl) ty26 (by rfl)) rfl (.c rfl (.c rfl .nil)) (.cons rfl .nil) ?_
     refine .as rfl (by rfl) ?_
     refine .as rfl (by rfl) ?_
     refine .nil (aq_then ?_)
     refine aw_rs ?_
     refine .v (f_load (n := 0) (o := 14) (off := 0) (p := []) (c := .d (eGLine y16.1)) (z := .d (eGLine y16.1)) (by rfl) rfl ty26 (by rfl)) rfl (.c rfl .nil) (.cons rfl .nil) ?_
     refine .v (f_fieldAddr (n := 0) (by rfl) fl95_0 (by decide)) rfl (.c rfl .nil) .nil ?_
     refine .v (f_load (n := 0) (o := 12) (off := (0 + 0)) (p := [0]) (c := .d (eGAccount y14.1)) (z := .d (.val (.int .u64 y14.1.Nonce))) (by rfl) rfl ty27 (by rfl)) rfl (.c rfl .nil) (.cons rfl .nil) ?_
     obtain ⟨y18, hy19, h⟩ := bind_some h
     refine .v (f_callP hgl (by rfl) en16 rfl (by rfl) (by rfl) (by rfl) (F16_queue_Ready_ok hy19)) rfl (.c rfl (.c rfl .nil)) .nil ?_
     refine .mv rfl (by rfl) ?_
     refine .v (f_extract (by rfl) rfl) rfl (.c rfl .nil) .nil ?_
     refine .v (f_extract (by rfl) rfl) rfl (.c rfl .nil) .nil ?_
     refine .as rfl (by rfl) ?_
     refine .as rfl (by rfl) ?_
     refine .nil (aq_then ?_)
     refine aw_rs ?_
     refine .mv rfl (by rfl) ?_
     refine .mv rfl (by rfl) ?_
     refine .v (f_lenD (n := (y18.1).length) (by rfl) sl24 rfl (by simp)) rfl (.c rfl .nil) .nil ?_
     refine .mv rfl (by rfl) ?_
     refine .mv rfl (by rfl) ?_
     refine .v (f_lenO (by rfl) sl24 rfl) rfl (.c rfl .nil) .nil ?_
     refine .v (f_binI (by rfl) rfl (by rfl)) rfl (.c rfl (.c rfl .nil)) .nil ?_
     refine .v (f_minI (by rfl)) rfl (.c rfl (.c rfl .nil)) .nil ?_
     refine .v (f_maxI (by rfl)) rfl (.c rfl (.c rfl .nil)) .nil ?_
     obtain ⟨hb20, h⟩ := ifp h
     refine .v (f_sliceD (k1 := .i64) (k2 := .i64) (i := (0 : Int)) (j := (if (if (IntKind.i64.wrap (a2 - ((z0_1).length : Int))) < ((y18.1).length : Int) then (IntKind.i64.wrap (a2 - ((z0_1).length : Int))) else ((y18.1).length : Int)) > (0 : Int) then (if (IntKind.i64.wrap (a2 - ((z0_1).length : Int))) < ((y18.1).length : Int) then (IntKind.i64.wrap (a2 - ((z0_1).length : Int))) else ((y18.1).length : Int)) else (0 : Int))) (xs := (y18.1).map eGTx) (zs := ((y18.1).take ((if (if (IntKind.i64.wrap (a2 - ((z0_1).length : Int))) < ((y18.1).length : Int) then (IntKind.i64.wrap (a2 - ((z0_1).length : Int))) else ((y18.1).length : Int)) > (0 : Int) then (if (IntKind.i64.wrap (a2 - ((z0_1).length : Int))) < ((y18.1).length : Int) then (IntKind.i64.wrap (a2 - ((z0_1).length : Int))) else ((y18.1).length : Int)) else (0 : Int))).toNat).map eGTx) (by rfl) sl24 (by intro hx; first | rfl | cases hx) (by intro hx; first | (simp; done) | cases hx) hb20.1 hb20.2.1 (by rw [List.length_map]; exact hb20.2.2) (by simp [List.map_take, List.map_drop, List.take_of_length_le])) rfl (.c rfl (.c rfl .nil)) .nil ?_
     refine .as rfl (by rfl) ?_
     refine .nil (aq_then ?_)
     refine aw_rs ?_
     refine .mv rfl (by rfl) ?_
     refine .mv rfl (by rfl) ?_
     obtain ⟨hb21, h⟩ := ifp h
     refine .w (f_appendC (m := ((z0_1 ++ ((y18.1).take ((if (if (IntKind.i64.wrap (a2 - ((z0_1).length : Int))) < ((y18.1).length : Int) then (IntKind.i64.wrap (a2 - ((z0_1).length : Int))) else ((y18.1).length : Int)) > (0 : Int) then (if (IntKind.i64.wrap (a2 - ((z0_1).length : Int))) < ((y18.1).length : Int) then (IntKind.i64.wrap (a2 - ((z0_1).length : Int))) else ((y18.1).length : Int)) else (0 : Int))).toNat))).length) (ys := (((y18.1).take ((if (if (IntKind.i64.wrap (a2 - ((z0_1).length : Int))) < ((y18.1).length : Int) then (IntKind.i64.wrap (a2 - ((z0_1).length : Int))) else ((y18.1).length : Int)) > (0 : Int) then (if (IntKind.i64.wrap (a2 - ((z0_1).length : Int))) < ((y18.1).length : Int) then (IntKind.i64.wrap (a2 - ((z0_1).length : Int))) else ((y18.1).length : Int)) else (0 : Int))).toNat) : List GTx).map eGTx) (xs := (z0_1).map eGTx) (zs := ((z0_1 ++ ((y18.1).take ((if (if (IntKind.i64.wrap (a2 - ((z0_1).length : Int))) < ((y18.1).length : Int) then (IntKind.i64.wrap (a2 - ((z0_1).length : Int))) else ((y18.1).length : Int)) > (0 : Int) then (if (IntKind.i64.wrap (a2 - ((z0_1).length : Int))) < ((y18.1).length : Int) then (IntKind.i64.wrap (a2 - ((z0_1).length : Int))) else ((y18.1).length : Int)) else (0 : Int))).toNat))).map eGTx) 1111 (by rfl) el24 (by simp) (by simp) (by simp [List.map_drop]) (by simp) (Nat.le_trans (Nat.mul_le_mul_right _ hb21) (by decide)) (Nat.le_trans hb21 (by decide)) srcD) rfl (.c rfl (.c rfl .nil)) (.cons rfl .nil) (.cons rfl .nil) ?_
     refine .as rfl (by rfl) ?_
     refine .nil (aq_then ?_)
     refine aw_rs ?_
     refine .v (f_fieldAddr (n := 32) (by rfl) fl26_1 (by decide)) rfl (.c rfl .nil) .nil ?_
     refine .v (f_load (n := 0) (o := 14) (off := (0 + 32)) (p := [1]) (c := .d (eGLine y16.1)) (z := .d (eL24 y16.1.Txs)) (by rfl) rfl ty24 (by rfl)) rfl (.c rfl .nil) (.cons rfl .nil) ?_
     refine .mv rfl (by rfl) ?_
     refine .v (f_lenD (n := (((y18.1).take ((if (if (IntKind.i64.wrap (a2 - ((z0_1).length : Int))) < ((y18.1).length : Int) then (IntKind.i64.wrap (a2 - ((z0_1).length : Int))) else ((y18.1).length : Int)) > (0 : Int) then (if (IntKind.i64.wrap (a2 - ((z0_1).length : Int))) < ((y18.1).length : Int) then (IntKind.i64.wrap (a2 - ((z0_1).length : Int))) else ((y18.1).length : Int)) else (0 : Int))).toNat)).length) (by rfl) sl24 rfl (by simp)) rfl (.c rfl .nil) .nil ?_
     obtain ⟨hb22, h⟩ := ifp h
     refine .v (f_sliceD (k1 := .i64) (k2 := .i64) (i := ((((y18.1).take ((if (if (IntKind.i64.wrap (a2 - ((z0_1).length : Int))) < ((y18.1).length : Int) then (IntKind.i64.wrap (a2 - ((z0_1).length : Int))) else ((y18.1).length : Int)) > (0 : Int) then (if (IntKind.i64.wrap (a2 - ((z0_1).length : Int))) < ((y18.1).length : Int) then (IntKind.i64.wrap (a2 - ((z0_1).length : Int))) else ((y18.1).length : Int)) else (0 : Int))).toNat)).length : Int)) (j := ((y16.1.Txs).length : Int)) (xs := (y16.1.Txs).map eGTx) (zs := ((y16.1.Txs).drop (((((y18.1).take ((if (if (IntKind.i64.wrap (a2 - ((z0_1).length : Int))) < ((y18.1).length : Int) then (IntKind.i64.wrap (a2 - ((z0_1).length : Int))) else ((y18.1).length : Int)) > (0 : Int) then (if (IntKind.i64.wrap (a2 - ((z0_1).length : Int))) < ((y18.1).length : Int) then (IntKind.i64.wrap (a2 - ((z0_1).length : Int))) else ((y18.1).length : Int)) else (0 : Int))).toNat)).length : Int)).toNat).map eGTx) (by rfl) sl24 (by intro hx; first | rfl | cases hx) (by intro hx; first | (simp; done) | cases hx) hb22.1 hb22.2.1 (by rw [List.length_map]; exact hb22.2.2) (by simp [List.map_take, List.map_drop, List.take_of_length_le])) rfl (.c rfl (.c rfl .nil)) .nil ?_
     refine .v (f_fieldAddr (n := 32) (by rfl) fl26_1 (by decide)) rfl (.c rfl .nil) .nil ?_
     refine .s (f_store (n := 0) (o := 14) (off := (0 + 32)) (p := [1]) (c := .d (eGLine y16.1)) (old := .d (eL24 y16.1.Txs)) (z := .d (eL24 ((y16.1.Txs).drop (((((y18.1).take ((if (if (IntKind.i64.wrap (a2 - ((z0_1).length : Int))) < ((y18.1).length : Int) then (IntKind.i64.wrap (a2 - ((z0_1).length : Int))) else ((y18.1).length : Int)) > (0 : Int) then (if (IntKind.i64.wrap (a2 - ((z0_1).length : Int))) < ((y18.1).length : Int) then (IntKind.i64.wrap (a2 - ((z0_1).length : Int))) else ((y18.1).length : Int)) else (0 : Int))).toNat)).length : Int)).toNat))) (c' := .d (eGLine ({ y16.1 with Txs := ((y16.1.Txs).drop (((((y18.1).take ((if (if (IntKind.i64.wrap (a2 - ((z0_1).length : Int))) < ((y18.1).length : Int) then (IntKind.i64.wrap (a2 - ((z0_1).length : Int))) else ((y18.1).length : Int)) > (0 : Int) then (if (IntKind.i64.wrap (a2 - ((z0_1).length : Int))) < ((y18.1).length : Int) then (IntKind.i64.wrap (a2 - ((z0_1).length : Int))) else ((y18.1).length : Int)) else (0 : Int))).toNat)).length : Int)).toNat) }))) rfl rfl (by rfl) ty24 (by rfl)) rfl (.c rfl (.c rfl .nil)) (.cons rfl .nil) ?_
     refine .nil (aq_then ?_)
     refine aw_r ?_
     refine .mv rfl (by rfl) ?_
     refine .v (f_load (n := 0) (o := 14) (off := 0) (p := []) (c := .d (eGLine ({ y16.1 with Txs := ((y16.1.Txs).drop (((((y18.1).take ((if (if (IntKind.i64.wrap (a2 - ((z0_1).length : Int))) < ((y18.1).length : Int) then (IntKind.i64.wrap (a2 - ((z0_1).length : Int))) else ((y18.1).length : Int)) > (0 : Int) then (if (IntKind.i64.wrap (a2 - ((z0_1).length : Int))) < ((y18.1).length : Int) then (IntKind.i64.wrap (a2 - ((z0_1).length : Int))) else ((y18.1).length : Int)) else (0 : Int))).toNat)).length : Int)).toNat) }))) (z := .d (eGLine ({ y16.1 with Txs := ((y16.1.Txs).drop (((((y18.1).take ((if (if (IntKind.i64.wrap (a2 - ((z0_1).length : Int))) < ((y18.1).length : Int) then (IntKind.i64.wrap (a2 - ((z0_1).length : Int))) else ((y18.1).length : Int)) > (0 : Int) then (if (IntKind.i64.wrap (a2 - ((z0_1).length : Int))) < ((y18.1).length : Int) then (IntKind.i64.wrap (a2 - ((z0_1).length : Int))) else ((y18.1).length : Int)) else (0 : Int))).toNat)).length : Int)).toNat) }))) (by rfl) rfl ty26 (by rfl)) rfl (.c rfl .nil) (.cons rfl .nil) ?_
     obtain ⟨y23, hy24, h⟩ := bind_some h
     refine .w (f_callG (xs := [.ptr 31 0 [], .d (eGLine ({ y16.1 with Txs := ((y16.1.Txs).drop (((((y18.1).take ((if (if (IntKind.i64.wrap (a2 - ((z0_1).length : Int))) < ((y18.1).length : Int) then (IntKind.i64.wrap (a2 - ((z0_1).length : Int))) else ((y18.1).length : Int)) > (0 : Int) then (if (IntKind.i64.wrap (a2 - ((z0_1).length : Int))) < ((y18.1).length : Int) then (IntKind.i64.wrap (a2 - ((z0_1).length : Int))) else ((y18.1).length : Int)) else (0 : Int))).toNat)).length : Int)).toNat) }))]) (r := .res []) (hw := [(31, .av (.st [.st [.slc 1112 0 ((y23).length) 33]])), (1102, .dead), (1112, .av (.d (.arr 33 ((y23).length) ((y23).map eGLine))))]) (fun i => bif Nat.beq i 1090 then 1112 else (bif Nat.beq i 1 then 1102 else (bif Nat.beq i 0 then 31 else i))) [] hgl (by rfl) (cal_f en95) rfl (by rfl) (by rfl) (by rfl) (by rfl) (.cons (.same _) (.cons (.same _) .nil)) rfl rfl rfl rfl (F95_shard_part_set_ddb_ok hy24)) rfl (.c rfl (.c rfl .nil)) (.cons rfl (.cons rfl .nil)) (.cons rfl .nil) ?_
     refine .nil ?_
     refine aq_block ?_
     refine aq_then ?_
     refine aw_r ?_
     refine .v (f_binI (by rfl) rfl (by rfl)) rfl (.c rfl (.c rfl .nil)) .nil ?_
     refine .mv rfl (by rfl) ?_
     refine .nil ?_
     obtain rfl := Option.some.inj h
     refine aq_weak (s' := ⟨[(2, .d (.val (.int .i64 a2))), (4, .ptr 4 0 []), (6, .ptr 6 0 []), (7, .slc 1108 0 (((z0_1 ++ ((y18.1).take ((if (if (IntKind.i64.wrap (a2 - ((z0_1).length : Int))) < ((y18.1).length : Int) then (IntKind.i64.wrap (a2 - ((z0_1).length : Int))) else ((y18.1).length : Int)) > (0 : Int) then (if (IntKind.i64.wrap (a2 - ((z0_1).length : Int))) < ((y18.1).length : Int) then (IntKind.i64.wrap (a2 - ((z0_1).length : Int))) else ((y18.1).length : Int)) else (0 : Int))).toNat))).length) 99), (9, .ptr 31 0 []), (33, .d (eL72 a0.Lines)), (34, .d (.val (.int .i64 ((a0.Lines).length : Int)))), (35, .d (.val (.int .i64 (IntKind.i64.wrap (z0_0 + (1 : Int))))))], [(4, .av (.d (eGTree a1))), (6, .av (.st [.d (.val (.slice none 0 0))])), (1108, .av (.d (.arr 99 (((z0_1 ++ ((y18.1).take ((if (if (IntKind.i64.wrap (a2 - ((z0_1).length : Int))) < ((y18.1).length : Int) then (IntKind.i64.wrap (a2 - ((z0_1).length : Int))) else ((y18.1).length : Int)) > (0 : Int) then (if (IntKind.i64.wrap (a2 - ((z0_1).length : Int))) < ((y18.1).length : Int) then (IntKind.i64.wrap (a2 - ((z0_1).length : Int))) else ((y18.1).length : Int)) else (0 : Int))).toNat))).length) (((z0_1 ++ ((y18.1).take ((if (if (IntKind.i64.wrap (a2 - ((z0_1).length : Int))) < ((y18.1).length : Int) then (IntKind.i64.wrap (a2 - ((z0_1).length : Int))) else ((y18.1).length : Int)) > (0 : Int) then (if (IntKind.i64.wrap (a2 - ((z0_1).length : Int))) < ((y18.1).length : Int) then (IntKind.i64.wrap (a2 - ((z0_1).length : Int))) else ((y18.1).length : Int)) else (0 : Int))).toNat))).map eGTx)))), (31, .av (.st [.st [.slc 1102 0 ((y23).length) 33]])), (1102, .av (.d (.arr 33 ((y23).length) ((y23).map eGLine))))], []⟩) (fun i => (bif Nat.beq i 1102 then 1112 else (bif Nat.beq i 1108 then 1111 else i))) hb0 (.cons rfl (.cons rfl (.cons rfl (.cons rfl (.cons rfl (.cons rfl (.cons rfl (.cons rfl .nil)))))))) (.cons rfl (.cons rfl (.cons rfl (.cons rfl (.cons rfl .nil))))) rfl (by rfl) ?_
     exact jq
   replace h := ite_f hc10 h
   refine aw_exit ?_
   refine aq_then_exit ?_
   obtain rfl := Option.some.inj h
   refine aq_weak (s' := ⟨[(6, .ptr 6 0 []), (7, .slc 1108 0 ((z0_1).length) 99), (9, .ptr 31 0 [])], [(6, .av (.st [.d (.val (.slice none 0 0))])), (1108, .av (.d (.arr 99 ((z0_1).length) ((z0_1).map eGTx)))), (31, .av (.st [.st [.slc 1102 0 ((z0_2).length) 33]])), (1102, .av (.d (.arr 33 ((z0_2).length) ((z0_2).map eGLine))))], []⟩) id hb0 (.keep rfl (.keep rfl (.keep rfl .nil))) (.keep rfl (.keep rfl (.keep rfl (.keep rfl .nil)))) rfl (by rfl) ?_
   exact jq
 refine aq_block_exit ?_
 refine aq_then ?_
 refine aw_rs ?_
 refine .mv rfl (by rfl) ?_
 refine .v (f_nilCheck (by rfl)) rfl (.c rfl .nil) .nil ?_
 refine .v (f_fieldAddr (n := 0) (by rfl) fl132_0 (by decide)) rfl (.c rfl .nil) .nil ?_
 refine .v (f_load (n := 0) (o := 31) (off := (0 + 0)) (p := [0]) (c := .st [.st [.slc 1102 0 ((o25.2).length) 33]]) (z := .st [.slc 1102 0 ((o25.2).length) 33]) (by rfl) rfl ty74 (by rfl)) rfl (.c rfl .nil) (.cons rfl .nil) ?_
 refine .mv rfl (by rfl) ?_
 refine .s (f_store (n := 0) (o := 6) (off := 0) (p := []) (c := .st [.d (.val (.slice none 0 0))]) (old := .st [.d (.val (.slice none 0 0))]) (z := .st [.slc 1102 0 ((o25.2).length) 33]) (c' := .st [.slc 1102 0 ((o25.2).length) 33]) rfl rfl (by rfl) ty74 (by rfl)) rfl (.c rfl (.c rfl .nil)) (.cons rfl .nil) ?_
 refine .as rfl (by rfl) ?_
 refine .as rfl (by rfl) ?_
 refine .nil (aq_then ?_)
 refine aw_ret ?_
 obtain rfl := Option.some.inj h
 refine aq_freezeH [(1108, (.arr 99 ((o25.1).length) ((o25.1).map eGTx))), (1102, (.arr 33 ((o25.2).length) ((o25.2).map eGLine)))] [(6, .ptr 6 0 []), (7, .d (eL24 o25.1)), (8, .d (.val (.int .i64 (0 : Int))))] [(6, .av (.d (eGShard (⟨o25.2⟩ : GShard)))), (31, .av (.d (eGshard_part (⟨(⟨o25.2⟩ : GShard)⟩ : Gshard_part))))] (.cons rfl (.cons rfl .nil)) (.keep rfl (.cons rfl (.whole (.head _)) (.keep rfl .nil))) (.cons rfl (by rfl) (.st (.cons (.whole (.tail _ (.head _))) .nil)) (.cons rfl (by rfl) (.st (.cons (.st (.cons (.whole (.tail _ (.head _))) .nil)) .nil)) .nil)) ?_
 exact aq_finp hb0 rfl (.cell rfl rfl ty74 (by rfl) (.tmp rfl (by rfl) (.tmp rfl (by rfl) .nil))) (by rfl) rfl ⟨rfl, rfl⟩

/- 128: slices.IndexFunc[[]beadroll/api.Tx,beadroll/api.Tx] -/
def F128_api_Tx_687_s0 (n : Nat) (a0 : (List GTx)) (z0_0 : Int) : Option ((Int) ⊕ ((Unit) ⊕ (Int))) :=
  (if (decide (z0_0 < ((a0).length : Int))) = true then ((rd a0 z0_0).bind fun (x2 : GTx) => ((F102_shard_Back_1 n x2).bind fun (y5 : Bool) => (if y5 = true then some (.inr (.inr z0_0)) else some (.inl (IntKind.i64.wrap (z0_0 + (1 : Int))))))) else some (.inr (.inl ())))
def F128_api_Tx_687 (n : Nat) (a0 : (List GTx)) : Option (Int) :=
  ((loopF (fun (z : Int) => F128_api_Tx_687_s0 n a0 z) n (0 : Int)).bind (Sum.elim (fun (j8 : Unit) => some (-1 : Int)) (fun (j8 : Int) => some j8)))
theorem F128_api_Tx_687_ok {n : Nat} {a0 : (List GTx)} {r : Int} (h : F128_api_Tx_687 n a0 = some r) :
    ACall Tryd.prog GS 128 [.d (eL24 a0), .fn (.func 102) [] []] [] (fun r' hp' => r' = .d (.val (.int .i64 r)) ∧ hp' = []) := by
 refine acall_of_body mixed Tryd.func128 rfl (by rfl) ?_
 intro C hro hgl hb0
 unfold F128_api_Tx_687 at h
 refine aw_rs ?_
 refine .as rfl (by rfl) ?_
 refine .nil (aq_then ?_)
 refine aw_seq ?_
 refine aw_rs ?_
 refine .mv rfl (by rfl) ?_
 refine .v (f_lenD (n := (a0).length) (by rfl) sl24 rfl (by simp)) rfl (.c rfl .nil) .nil ?_
 refine .mv rfl (by rfl) ?_
 refine .nil (aq_then ?_)
 refine aw_block ?_
 refine aw_weak (s' := ⟨[(0, .d (eL24 a0)), (1, .fn (.func 102) [] []), (7, .d (.val (.int .i64 ((a0).length : Int)))), (8, .d (.val (.int .i64 (0 : Int))))], [], []⟩) id hb0 (.keep rfl (.keep rfl (.keep rfl (.keep rfl .nil)))) .nil rfl (by rfl) ?_
 obtain ⟨o8, ho9, h⟩ := bind_some h
 refine aw_loopX (σ := Int) (fun z => ⟨[(0, .d (eL24 a0)), (1, .fn (.func 102) [] []), (7, .d (.val (.int .i64 ((a0).length : Int)))), (8, .d (.val (.int .i64 z)))], [], []⟩) (Sum.elim (fun _ => .exit 0) (fun _ => .ret)) (Sum.elim (fun j8 => ⟨[], [], []⟩) (fun j8 => ⟨[(4, .d (.val (.int .i64 j8)))], [], []⟩)) ho9 (by intro b; rcases b with _ | _ <;> rfl) ?_ ?_
 · clear h ho9
   intro z0_0 o h
   change F128_api_Tx_687_s0 n a0 z0_0 = some o at h
   unfold F128_api_Tx_687_s0 at h
   show AW _ _ _ ⟨[(0, .d (eL24 a0)), (1, .fn (.func 102) [] []), (7, .d (.val (.int .i64 ((a0).length : Int)))), (8, .d (.val (.int .i64 z0_0)))], [], []⟩
   refine aw_rs ?_
   refine .v (f_binI (by rfl) rfl (by rfl)) rfl (.c rfl (.c rfl .nil)) .nil ?_
   refine .nil (aq_then ?_)
   refine aw_seq ?_
   refine aw_cond rfl (fun hc1 => ?_) (fun hc1 => ?_)
   · replace h := ite_t hc1 h
     refine aw_skip ?_
     refine aq_then ?_
     refine aw_seq ?_
     refine aw_block ?_
     refine aw_rs ?_
     refine .mv rfl (by rfl) ?_
     refine .as rfl (by rfl) ?_
     refine .nil (aq_then ?_)
     refine aw_rs ?_
     refine .mv rfl (by rfl) ?_
     refine .mv rfl (by rfl) ?_
     refine .mv rfl (by rfl) ?_
     obtain ⟨x2, hx3, h⟩ := bind_some h
     obtain ⟨hx4, hx3⟩ := rd_some hx3
     refine .v (f_indexS (by rfl) sl24 hx4 (rd_map _ hx3)) rfl (.c rfl (.c rfl .nil)) .nil ?_
     refine .v (f_loadR (z := (eGTx x2)) (by rfl) ty36) rfl (.c rfl .nil) .nil ?_
     obtain ⟨y5, hy6, h⟩ := bind_some h
     refine .w (f_callG0 (xs := [.d (eGTx x2)]) (r := .d (.val (.bool y5))) (fun i => i) [] hgl (by rfl) (cal_v (first := []) (caps := []) en102) rfl (by rfl) (by rfl) (by rfl) (by rfl) (.cons (.same _) .nil) rfl rfl (F102_shard_Back_1_ok hy6)) rfl (.c rfl (.c rfl .nil)) .nil .nil ?_
     refine .nil (aq_then ?_)
     refine aw_cond rfl (fun hc7 => ?_) (fun hc7 => ?_)
     · replace h := ite_t hc7 h
       refine aw_rs ?_
       refine .mv rfl (by rfl) ?_
       refine .as rfl (by rfl) ?_
       refine .nil (aq_then ?_)
       refine aw_ret ?_
       refine aq_block_ret ?_
       refine aq_then_ret ?_
       obtain rfl := Option.some.inj h
       refine aq_weak (s' := ⟨[(4, .d (.val (.int .i64 z0_0)))], [], []⟩) id hb0 (.keep rfl .nil) .nil rfl (by rfl) ?_
       exact jq
     replace h := ite_f hc7 h
     refine aw_skip ?_
     refine aq_block ?_
     refine aq_then ?_
     refine aw_r ?_
     refine .v (f_binI (by rfl) rfl (by rfl)) rfl (.c rfl (.c rfl .nil)) .nil ?_
     refine .mv rfl (by rfl) ?_
     refine .nil ?_
     obtain rfl := Option.some.inj h
     refine aq_weak (s' := ⟨[(0, .d (eL24 a0)), (1, .fn (.func 102) [] []), (7, .d (.val (.int .i64 ((a0).length : Int)))), (8, .d (.val (.int .i64 (IntKind.i64.wrap (z0_0 + (1 : Int))))))], [], []⟩) id hb0 (.keep rfl (.keep rfl (.keep rfl (.keep rfl .nil)))) .nil rfl (by rfl) ?_
     exact jq
   replace h := ite_f hc1 h
   refine aw_exit ?_
   refine aq_then_exit ?_
   obtain rfl := Option.some.inj h
   refine aq_weak (s' := ⟨[], [], []⟩) id hb0 .nil .nil rfl (by rfl) ?_
   exact jq
 rcases o8 with j8 | j8
 · replace h := elim_l h
   refine aq_block_exit ?_
   refine aq_then ?_
   refine aw_rs ?_
   refine .as rfl (by rfl) ?_
   refine .nil (aq_then ?_)
   refine aw_ret ?_
   obtain rfl := Option.some.inj h
   exact aq_finp hb0 rfl (.tmp rfl (by rfl) .nil) (by rfl) rfl ⟨rfl, rfl⟩
 replace h := elim_r h
 refine aq_block_ret ?_
 refine aq_then_ret ?_
 obtain rfl := Option.some.inj h
 exact aq_finp hb0 rfl (.tmp rfl (by rfl) .nil) (by rfl) rfl ⟨rfl, rfl⟩

/- 101: slices.ContainsFunc[[]beadroll/api.Tx,beadroll/api.Tx] -/
def F101_api_Tx_76e (n : Nat) (a0 : (List GTx)) : Option (Bool) :=
  ((F128_api_Tx_687 n a0).bind fun (y1 : Int) => some (decide (y1 ≥ (0 : Int))))
theorem F101_api_Tx_76e_ok {n : Nat} {a0 : (List GTx)} {r : Bool} (h : F101_api_Tx_76e n a0 = some r) :
    ACall Tryd.prog GS 101 [.d (eL24 a0), .fn (.func 102) [] []] [] (fun r' hp' => r' = .d (.val (.bool r)) ∧ hp' = []) := by
 refine acall_of_body mixed Tryd.func101 rfl (by rfl) ?_
 intro C hro hgl hb0
 unfold F101_api_Tx_76e at h
 refine aw_rs ?_
 refine .as rfl (by rfl) ?_
 refine .nil (aq_then ?_)
 refine aw_rs ?_
 refine .mv rfl (by rfl) ?_
 refine .mv rfl (by rfl) ?_
 obtain ⟨y1, hy2, h⟩ := bind_some h
 refine .v (f_callP hgl (by rfl) en128 rfl (by rfl) (by rfl) (by rfl) (F128_api_Tx_687_ok hy2)) rfl (.c rfl (.c rfl .nil)) .nil ?_
 refine .v (f_binI (by rfl) rfl (by rfl)) rfl (.c rfl (.c rfl .nil)) .nil ?_
 refine .as rfl (by rfl) ?_
 refine .nil (aq_then ?_)
 refine aw_ret ?_
 obtain rfl := Option.some.inj h
 exact aq_finp hb0 rfl (.tmp rfl (by rfl) .nil) (by rfl) rfl ⟨rfl, rfl⟩

/- 63: beadroll/shard.Back -/
def F63_shard_Back_s0 (n : Nat) (a1 : GTree) (a2 : (List GTx)) (z0_0 : Int) (z0_1 : List GLine) : Option ((Int × List GLine) ⊕ ((List GLine) ⊕ (Int))) :=
  (if (decide (z0_0 < ((a2).length : Int))) = true then ((((rd a2 z0_0).bind fun (x14 : GTx) => ((F39_tx_From n x14).bind fun (y17 : (List Int)) => ((F64_acct_Get n a1 y17).bind fun (y19 : GAccount × Int) => (if (decide (x14.Nonce < y19.1.Nonce)) = true then some (.inl z0_1) else ((F93_shard_part_line_ec6 n y17 z0_1).bind fun (y22 : GLine) => ((F34_queue_Put n y22 x14).bind fun (y24 : GLine × (List GTx) × Int) => (if (y24.2.2 == (0 : Int)) = true then ((F95_shard_part_set_ddb n y24.1 z0_1).bind fun (y27 : List GLine) => some (.inl y27)) else (if (y24.2.2 == (9 : Int)) = true then some (.inr y24.2.2) else some (.inl z0_1)))))))))).bind (Sum.elim (fun (j30 : List GLine) => some (.inl ((IntKind.i64.wrap (z0_0 + (1 : Int))), j30))) (fun (j30 : Int) => some (.inr (.inr j30))))) else some (.inr (.inl z0_1)))
def F63_shard_Back (n : Nat) (a0 : GShard) (a1 : GTree) (a2 : (List GTx)) : Option (GShard × Int) :=
  ((((F52_shard_Check n a0).bind fun (y1 : Int) => (if (y1 != (0 : Int)) = true then some true else ((F67_acct_Check n a1).bind fun (y4 : Int) => some (y4 != (0 : Int)))))).bind fun (o6 : Bool) => (if o6 = true then some ((⟨[]⟩ : GShard), (8 : Int)) else ((F101_api_Tx_76e n a2).bind fun (y8 : Bool) => (if y8 = true then some ((⟨[]⟩ : GShard), (110 : Int)) else ((F61_shard_Twin n a0).bind fun (y11 : List GLine) => ((loopF (fun (z : Int × List GLine) => F63_shard_Back_s0 n a1 a2 z.1 z.2) n ((0 : Int), y11)).bind (Sum.elim (fun (j32 : List GLine) => some ((⟨j32⟩ : GShard), (0 : Int))) (fun (j32 : Int) => some ((⟨[]⟩ : GShard), j32)))))))))
theorem F63_shard_Back_ok {n : Nat} {a0 : GShard} {a1 : GTree} {a2 : (List GTx)} {r : GShard × Int} (h : F63_shard_Back n a0 a1 a2 = some r) :
    ACall Tryd.prog GS 63 [.d (eGShard a0), .d (eGTree a1), .d (eL24 a2)] [] (fun r' hp' => r' = .res [.d (eGShard r.1), .d (.val (.int .i64 r.2))] ∧ hp' = []) := by
 refine acall_of_body mixed Tryd.func63 rfl (by rfl) ?_
 intro C hro hgl hb0
 unfold F63_shard_Back at h
 refine aw_rs ?_
 refine .n (f_box 3 (by rfl) (by rfl)) rfl (.c rfl .nil) rfl ?_
 refine .n (f_box 4 (by rfl) (by rfl)) rfl (.c rfl .nil) rfl ?_
 refine .n (f_alloc 6 (by rfl) zrv74) rfl .nil rfl ?_
 refine .as rfl (by rfl) ?_
 refine .nil (aq_then ?_)
 refine aw_seq ?_
 refine aw_block ?_
 refine aw_seq ?_
 obtain ⟨o6, ho34, h⟩ := bind_some h
 refine aw_join (.normal) ⟨[(2, .d (eL24 a2)), (3, .ptr 3 0 []), (4, .ptr 4 0 []), (6, .ptr 6 0 []), (17, .d (.val (.bool o6)))], [(3, .av (.d (eGShard a0))), (4, .av (.d (eGTree a1))), (6, .av (.st [.d (.val (.slice none 0 0))]))], []⟩ ?_ ?_
 · replace h := ho34
   refine aw_r ?_
   refine .v (f_load (n := 0) (o := 3) (off := 0) (p := []) (c := .d (eGShard a0)) (z := .d (eGShard a0)) (by rfl) rfl ty74 (by rfl)) rfl (.c rfl .nil) (.cons rfl .nil) ?_
   obtain ⟨y1, hy2, h⟩ := bind_some h
   refine .v (f_callP hgl (by rfl) en52 rfl (by rfl) (by rfl) (by rfl) (F52_shard_Check_ok hy2)) rfl (.c rfl .nil) .nil ?_
   refine .v (f_binI (by rfl) rfl (by rfl)) rfl (.c rfl (.c rfl .nil)) .nil ?_
   refine .mv rfl (by rfl) ?_
   rcases Bool.eq_false_or_eq_true (y1 != (0 : Int)) with hc3 | hc3
   · replace h := ite_t hc3 h
     refine .off rfl rfl rfl hc3 rfl (by rfl) ?_
     refine .off rfl rfl rfl hc3 rfl (by rfl) ?_
     refine .off rfl rfl rfl hc3 rfl (by rfl) ?_
     refine .v (f_pick_true (by rfl) hc3) rfl (.c rfl (.c rfl .nil)) .nil ?_
     refine .as rfl (by rfl) ?_
     refine .nil ?_
     obtain rfl := Option.some.inj h
     refine aq_weak (s' := ⟨[(2, .d (eL24 a2)), (3, .ptr 3 0 []), (4, .ptr 4 0 []), (6, .ptr 6 0 []), (17, .d (.val (.bool true)))], [(3, .av (.d (eGShard a0))), (4, .av (.d (eGTree a1))), (6, .av (.st [.d (.val (.slice none 0 0))]))], []⟩) id hb0 (.keep rfl (.keep rfl (.keep rfl (.keep rfl (.keep rfl .nil))))) (.keep rfl (.keep rfl (.keep rfl .nil))) rfl (by rfl) ?_
     exact jq
   replace h := ite_f hc3 h
   refine .gv (f_load (n := 0) (o := 4) (off := 0) (p := []) (c := .d (eGTree a1)) (z := .d (eGTree a1)) (by rfl) rfl ty90 (by rfl)) rfl rfl rfl hc3 (.c rfl .nil) (.cons rfl .nil) ?_
   obtain ⟨y4, hy5, h⟩ := bind_some h
   refine .gv (f_callP hgl (by rfl) en67 rfl (by rfl) (by rfl) (by rfl) (F67_acct_Check_ok hy5)) rfl rfl rfl hc3 (.c rfl .nil) .nil ?_
   refine .gv (f_binI (by rfl) rfl (by rfl)) rfl rfl rfl hc3 (.c rfl (.c rfl .nil)) .nil ?_
   refine .v (f_pick_false (by rfl) hc3) rfl (.c rfl (.c rfl .nil)) .nil ?_
   refine .as rfl (by rfl) ?_
   refine .nil ?_
   obtain rfl := Option.some.inj h
   refine aq_weak (s' := ⟨[(2, .d (eL24 a2)), (3, .ptr 3 0 []), (4, .ptr 4 0 []), (6, .ptr 6 0 []), (17, .d (.val (.bool (y4 != (0 : Int)))))], [(3, .av (.d (eGShard a0))), (4, .av (.d (eGTree a1))), (6, .av (.st [.d (.val (.slice none 0 0))]))], []⟩) id hb0 (.keep rfl (.keep rfl (.keep rfl (.keep rfl (.keep rfl .nil))))) (.keep rfl (.keep rfl (.keep rfl .nil))) rfl (by rfl) ?_
   exact jq
 refine aq_then ?_
 refine aw_cond rfl (fun hc7 => ?_) (fun hc7 => ?_)
 · replace h := ite_t hc7 h
   refine aw_rs ?_
   refine .v (f_build (xs := []) (z' := .st [.d (.val (.slice none 0 0))]) (by rfl) zrv74 ag74 rfl (by rfl) trivial (by rfl) (by rfl)) rfl .nil .nil ?_
   refine .s (f_store (n := 0) (o := 6) (off := 0) (p := []) (c := .st [.d (.val (.slice none 0 0))]) (old := .st [.d (.val (.slice none 0 0))]) (z := .st [.d (.val (.slice none 0 0))]) (c' := .st [.d (.val (.slice none 0 0))]) rfl rfl (by rfl) ty74 (by rfl)) rfl (.c rfl (.c rfl .nil)) (.cons rfl .nil) ?_
   refine .as rfl (by rfl) ?_
   refine .nil (aq_then ?_)
   refine aw_ret ?_
   refine aq_block_ret ?_
   refine aq_then_ret ?_
   obtain rfl := Option.some.inj h
   refine aq_freezeH [] [(6, .ptr 6 0 []), (7, .d (.val (.int .i64 (8 : Int))))] [(6, .av (.d (eGShard (⟨[]⟩ : GShard))))] .nil (.keep rfl (.keep rfl .nil)) (.cons rfl (by rfl) (.st (.cons .nil .nil)) .nil) ?_
   exact aq_finp hb0 rfl (.cell rfl rfl ty74 (by rfl) (.tmp rfl (by rfl) .nil)) (by rfl) rfl ⟨rfl, rfl⟩
 replace h := ite_f hc7 h
 refine aw_rs ?_
 refine .mv rfl (by rfl) ?_
 obtain ⟨y8, hy9, h⟩ := bind_some h
 refine .v (f_callP hgl (by rfl) en101 rfl (by rfl) (by rfl) (by rfl) (F101_api_Tx_76e_ok hy9)) rfl (.c rfl (.c rfl .nil)) .nil ?_
 refine .as rfl (by rfl) ?_
 refine .nil (aq_then ?_)
 refine aw_cond rfl (fun hc10 => ?_) (fun hc10 => ?_)
 · replace h := ite_t hc10 h
   refine aw_rs ?_
   refine .v (f_build (xs := []) (z' := .st [.d (.val (.slice none 0 0))]) (by rfl) zrv74 ag74 rfl (by rfl) trivial (by rfl) (by rfl)) rfl .nil .nil ?_
   refine .s (f_store (n := 0) (o := 6) (off := 0) (p := []) (c := .st [.d (.val (.slice none 0 0))]) (old := .st [.d (.val (.slice none 0 0))]) (z := .st [.d (.val (.slice none 0 0))]) (c' := .st [.d (.val (.slice none 0 0))]) rfl rfl (by rfl) ty74 (by rfl)) rfl (.c rfl (.c rfl .nil)) (.cons rfl .nil) ?_
   refine .as rfl (by rfl) ?_
   refine .nil (aq_then ?_)
   refine aw_ret ?_
   refine aq_block_ret ?_
   refine aq_then_ret ?_
   obtain rfl := Option.some.inj h
   refine aq_freezeH [] [(6, .ptr 6 0 []), (7, .d (.val (.int .i64 (110 : Int))))] [(6, .av (.d (eGShard (⟨[]⟩ : GShard))))] .nil (.keep rfl (.keep rfl .nil)) (.cons rfl (by rfl) (.st (.cons .nil .nil)) .nil) ?_
   exact aq_finp hb0 rfl (.cell rfl rfl ty74 (by rfl) (.tmp rfl (by rfl) .nil)) (by rfl) rfl ⟨rfl, rfl⟩
 replace h := ite_f hc10 h
 refine aw_skip ?_
 refine aq_block ?_
 refine aq_then ?_
 refine aw_rs ?_
 refine .v (f_load (n := 0) (o := 3) (off := 0) (p := []) (c := .d (eGShard a0)) (z := .d (eGShard a0)) (by rfl) rfl ty74 (by rfl)) rfl (.c rfl .nil) (.cons rfl .nil) ?_
 obtain ⟨y11, hy12, h⟩ := bind_some h
 refine .w (f_callG (xs := [.d (eGShard a0)]) (r := .st [.slc 1114 0 ((y11).length) 33]) (hw := [(1113, .av (.st [.slc 1114 0 ((y11).length) 33])), (1114, .av (.d (.arr 33 ((y11).length) ((y11).map eGLine))))]) (fun i => bif Nat.beq i 1078 then 1114 else (bif Nat.beq i 2 then 1113 else i)) [] hgl (by rfl) (cal_f en61) rfl (by rfl) (by rfl) (by rfl) (by rfl) (.cons (.same _) .nil) rfl rfl rfl rfl (F61_shard_Twin_ok hy12)) rfl (.c rfl .nil) .nil (.cons rfl (.cons rfl .nil)) ?_
 refine .v (f_build (xs := [(0, .st [.slc 1114 0 ((y11).length) 33])]) (z' := .st [.st [.slc 1114 0 ((y11).length) 33]]) (by rfl) zrv132 ag132 rfl (by rfl) ⟨_, _, _, rfl, pl132_0, rfl, rfl, trivial⟩ (by rfl) (by rfl)) rfl (.c rfl .nil) .nil ?_
 refine .n (f_box 34 (by rfl) (by rfl)) rfl (.c rfl .nil) rfl ?_
 refine .as rfl (by rfl) ?_
 refine .nil (aq_then ?_)
 refine aw_seq ?_
 refine aw_rs ?_
 refine .mv rfl (by rfl) ?_
 refine .v (f_lenD (n := (a2).length) (by rfl) sl24 rfl (by simp)) rfl (.c rfl .nil) .nil ?_
 refine .mv rfl (by rfl) ?_
 refine .nil (aq_then ?_)
 refine aw_block ?_
 refine aw_weak (s' := ⟨[(4, .ptr 4 0 []), (6, .ptr 6 0 []), (8, .ptr 34 0 []), (35, .d (eL24 a2)), (36, .d (.val (.int .i64 ((a2).length : Int)))), (37, .d (.val (.int .i64 (0 : Int))))], [(4, .av (.d (eGTree a1))), (6, .av (.st [.d (.val (.slice none 0 0))])), (34, .av (.st [.st [.slc 1114 0 ((y11).length) 33]])), (1114, .av (.d (.arr 33 ((y11).length) ((y11).map eGLine))))], []⟩) id hb0 (.keep rfl (.keep rfl (.keep rfl (.keep rfl (.keep rfl (.keep rfl .nil)))))) (.keep rfl (.keep rfl (.keep rfl (.keep rfl .nil)))) rfl (by rfl) ?_
 obtain ⟨o32, ho33, h⟩ := bind_some h
 refine aw_loopX (σ := Int × List GLine) (fun z => ⟨[(4, .ptr 4 0 []), (6, .ptr 6 0 []), (8, .ptr 34 0 []), (35, .d (eL24 a2)), (36, .d (.val (.int .i64 ((a2).length : Int)))), (37, .d (.val (.int .i64 z.1)))], [(4, .av (.d (eGTree a1))), (6, .av (.st [.d (.val (.slice none 0 0))])), (34, .av (.st [.st [.slc 1114 0 ((z.2).length) 33]])), (1114, .av (.d (.arr 33 ((z.2).length) ((z.2).map eGLine))))], []⟩) (Sum.elim (fun _ => .exit 1) (fun _ => .ret)) (Sum.elim (fun j32 => ⟨[(6, .ptr 6 0 []), (8, .ptr 34 0 [])], [(6, .av (.st [.d (.val (.slice none 0 0))])), (34, .av (.st [.st [.slc 1114 0 ((j32).length) 33]])), (1114, .av (.d (.arr 33 ((j32).length) ((j32).map eGLine))))], []⟩) (fun j32 => ⟨[(6, .ptr 6 0 []), (7, .d (.val (.int .i64 j32)))], [(6, .av (.st [.d (.val (.slice none 0 0))]))], []⟩)) ho33 (by intro b; rcases b with _ | _ <;> rfl) ?_ ?_
 · clear h ho33
   rintro ⟨z0_0, z0_1⟩ o h
   change F63_shard_Back_s0 n a1 a2 z0_0 z0_1 = some o at h
   unfold F63_shard_Back_s0 at h
   show AW _ _ _ ⟨[(4, .ptr 4 0 []), (6, .ptr 6 0 []), (8, .ptr 34 0 []), (35, .d (eL24 a2)), (36, .d (.val (.int .i64 ((a2).length : Int)))), (37, .d (.val (.int .i64 z0_0)))], [(4, .av (.d (eGTree a1))), (6, .av (.st [.d (.val (.slice none 0 0))])), (34, .av (.st [.st [.slc 1114 0 ((z0_1).length) 33]])), (1114, .av (.d (.arr 33 ((z0_1).length) ((z0_1).map eGLine))))], []⟩
   refine aw_rs ?_
   refine .v (f_binI (by rfl) rfl (by rfl)) rfl (.c rfl (.c rfl .nil)) .nil ?_
   refine .nil (aq_then ?_)
   refine aw_seq ?_
   refine aw_cond rfl (fun hc13 => ?_) (fun hc13 => ?_)
   · replace h := ite_t hc13 h
     refine aw_skip ?_
     refine aq_then ?_
     refine aw_seq ?_
     obtain ⟨o30, ho31, h⟩ := bind_some h
     refine aw_join ((Sum.elim (fun _ => .normal) (fun _ => .ret)) o30) ((Sum.elim (fun j30 => ⟨[(4, .ptr 4 0 []), (6, .ptr 6 0 []), (8, .ptr 34 0 []), (35, .d (eL24 a2)), (36, .d (.val (.int .i64 ((a2).length : Int)))), (37, .d (.val (.int .i64 z0_0)))], [(4, .av (.d (eGTree a1))), (6, .av (.st [.d (.val (.slice none 0 0))])), (34, .av (.st [.st [.slc 1114 0 ((j30).length) 33]])), (1114, .av (.d (.arr 33 ((j30).length) ((j30).map eGLine))))], []⟩) (fun j30 => ⟨[(6, .ptr 6 0 []), (7, .d (.val (.int .i64 j30)))], [(6, .av (.st [.d (.val (.slice none 0 0))]))], []⟩)) o30) ?_ ?_
     · replace h := ho31
       refine aw_block ?_
       refine aw_rs ?_
       obtain ⟨x14, hx15, h⟩ := bind_some h
       obtain ⟨hx16, hx15⟩ := rd_some hx15
       refine .v (f_indexS (by rfl) sl24 hx16 (rd_map _ hx15)) rfl (.c rfl (.c rfl .nil)) .nil ?_
       refine .v (f_loadR (z := (eGTx x14)) (by rfl) ty36) rfl (.c rfl .nil) .nil ?_
       refine .n (f_alloc 10 (by rfl) zr36) rfl .nil rfl ?_
       refine .s (f_store (n := 0) (o := 10) (off := 0) (p := []) (c := .d (eGTx (⟨(List.replicate 32 (0 : Int)), (List.replicate 32 (0 : Int)), (0 : Int), (0 : Int), (0 : Int), (List.replicate 32 (0 : Int))⟩ : GTx))) (old := .d (eGTx (⟨(List.replicate 32 (0 : Int)), (List.replicate 32 (0 : Int)), (0 : Int), (0 : Int), (0 : Int), (List.replicate 32 (0 : Int))⟩ : GTx))) (z := .d (eGTx x14)) (c' := .d (eGTx x14)) rfl rfl (by rfl) ty36 (by rfl)) rfl (.c rfl (.c rfl .nil)) (.cons rfl .nil) ?_
       refine .nil (aq_then ?_)
       refine aw_rs ?_
       refine .v (f_load (n := 0) (o := 10) (off := 0) (p := []) (c := .d (eGTx x14)) (z := .d (eGTx x14)) (by rfl) rfl ty36 (by rfl)) rfl (.c rfl .nil) (.cons rfl .nil) ?_
       obtain ⟨y17, hy18, h⟩ := bind_some h
       refine .v (f_callP hgl (by rfl) en39 rfl (by rfl) (by rfl) (by rfl) (F39_tx_From_ok hy18)) rfl (.c rfl .nil) .nil ?_
       refine .n (f_alloc 11 (by rfl) zr23) rfl .nil rfl ?_
       refine .s (f_store (n := 0) (o := 11) (off := 0) (p := []) (c := .d (eA22 (List.replicate 32 (0 : Int)))) (old := .d (eA22 (List.replicate 32 (0 : Int)))) (z := .d (eA22 y17)) (c' := .d (eA22 y17)) rfl rfl (by rfl) ty23 (by rfl)) rfl (.c rfl (.c rfl .nil)) (.cons rfl .nil) ?_
       refine .nil (aq_then ?_)
       refine aw_seq ?_
       refine aw_rs ?_
       refine .v (f_load (n := 0) (o := 4) (off := 0) (p := []) (c := .d (eGTree a1)) (z := .d (eGTree a1)) (by rfl) rfl ty90 (by rfl)) rfl (.c rfl .nil) (.cons rfl .nil) ?_
       refine .v (f_load (n := 0) (o := 11) (off := 0) (p := []) (c := .d (eA22 y17)) (z := .d (eA22 y17)) (by rfl) rfl ty23 (by rfl)) rfl (.c rfl .nil) (.cons rfl .nil) ?_
       obtain ⟨y19, hy20, h⟩ := bind_some h
       refine .v (f_callP hgl (by rfl) en64 rfl (by rfl) (by rfl) (by rfl) (F64_acct_Get_ok hy20)) rfl (.c rfl (.c rfl .nil)) .nil ?_
       refine .mv rfl (by rfl) ?_
       refine .v (f_extract (by rfl) rfl) rfl (.c rfl .nil) .nil ?_
       refine .v (f_extract (by rfl) rfl) rfl (.c rfl .nil) .nil ?_
       refine .n (f_alloc 12 (by rfl) zr95) rfl .nil rfl ?_
       refine .s (f_store (n := 0) (o := 12) (off := 0) (p := []) (c := .d (eGAccount (⟨(0 : Int), (0 : Int)⟩ : GAccount))) (old := .d (eGAccount (⟨(0 : Int), (0 : Int)⟩ : GAccount))) (z := .d (eGAccount y19.1)) (c' := .d (eGAccount y19.1)) rfl rfl (by rfl) ty95 (by rfl)) rfl (.c rfl (.c rfl .nil)) (.cons rfl .nil) ?_
       refine .as rfl (by rfl) ?_
       refine .nil (aq_then ?_)
       refine aw_rs ?_
       refine .v (f_fieldAddr (n := 64) (by rfl) fl36_2 (by decide)) rfl (.c rfl .nil) .nil ?_
       refine .v (f_load (n := 0) (o := 10) (off := (0 + 64)) (p := [2]) (c := .d (eGTx x14)) (z := .d (.val (.int .u64 x14.Nonce))) (by rfl) rfl ty27 (by rfl)) rfl (.c rfl .nil) (.cons rfl .nil) ?_
       refine .v (f_fieldAddr (n := 0) (by rfl) fl95_0 (by decide)) rfl (.c rfl .nil) .nil ?_
       refine .v (f_load (n := 0) (o := 12) (off := (0 + 0)) (p := [0]) (c := .d (eGAccount y19.1)) (z := .d (.val (.int .u64 y19.1.Nonce))) (by rfl) rfl ty27 (by rfl)) rfl (.c rfl .nil) (.cons rfl .nil) ?_
       refine .v (f_binI (by rfl) rfl (by rfl)) rfl (.c rfl (.c rfl .nil)) .nil ?_
       refine .nil (aq_then ?_)
       refine aw_cond rfl (fun hc21 => ?_) (fun hc21 => ?_)
       · replace h := ite_t hc21 h
         refine aw_exit ?_
         refine aq_then_exit ?_
         refine aq_block_exit ?_
         obtain rfl := Option.some.inj h
         refine aq_weak (s' := ⟨[(4, .ptr 4 0 []), (6, .ptr 6 0 []), (8, .ptr 34 0 []), (35, .d (eL24 a2)), (36, .d (.val (.int .i64 ((a2).length : Int)))), (37, .d (.val (.int .i64 z0_0)))], [(4, .av (.d (eGTree a1))), (6, .av (.st [.d (.val (.slice none 0 0))])), (34, .av (.st [.st [.slc 1114 0 ((z0_1).length) 33]])), (1114, .av (.d (.arr 33 ((z0_1).length) ((z0_1).map eGLine))))], []⟩) id hb0 (.keep rfl (.keep rfl (.keep rfl (.keep rfl (.keep rfl (.keep rfl .nil)))))) (.keep rfl (.keep rfl (.keep rfl (.keep rfl .nil)))) rfl (by rfl) ?_
         exact jq
       replace h := ite_f hc21 h
       refine aw_skip ?_
       refine aq_then ?_
       refine aw_rds ?_
       refine .v (f_move (by rfl)) rfl (.c rfl .nil) .nil ?_
       refine .v (f_load (n := 0) (o := 11) (off := 0) (p := []) (c := .d (eA22 y17)) (z := .d (eA22 y17)) (by rfl) rfl ty23 (by rfl)) rfl (.c rfl .nil) (.cons rfl .nil) ?_
       obtain ⟨y22, hy23, h⟩ := bind_some h
       refine .w (f_callG (xs := [.ptr 34 0 [], .d (eA22 y17)]) (r := .d (eGLine y22)) (hw := [(1117, .av (.d (eGLine y22))), (34, .av (.st [.st [.slc 1114 0 ((z0_1).length) 33]])), (1114, .av (.d (.arr 33 ((z0_1).length) ((z0_1).map eGLine))))]) (fun i => bif Nat.beq i 4 then 1117 else (bif Nat.beq i 1 then 1114 else (bif Nat.beq i 0 then 34 else i))) [] hgl (by rfl) (cal_f en93) rfl (by rfl) (by rfl) (by rfl) (by rfl) (.cons (.same _) (.cons (.same _) .nil)) rfl rfl rfl rfl (F93_shard_part_line_ec6_ok hy23)) rfl (.c rfl (.c rfl .nil)) (.cons rfl (.cons rfl .nil)) (.cons rfl .nil) ?_
       refine .v (f_load (n := 0) (o := 10) (off := 0) (p := []) (c := .d (eGTx x14)) (z := .d (eGTx x14)) (by rfl) rfl ty36 (by rfl)) rfl (.c rfl .nil) (.cons rfl .nil) ?_
       obtain ⟨y24, hy25, h⟩ := bind_some h
       refine .v (f_callP hgl (by rfl) en34 rfl (by rfl) (by rfl) (by rfl) (F34_queue_Put_ok hy25)) rfl (.c rfl (.c rfl .nil)) .nil ?_
       refine .v (f_move (by rfl)) rfl (.c rfl .nil) .nil ?_
       refine .v (f_extract (by rfl) rfl) rfl (.c rfl .nil) .nil ?_
       refine .v (f_extract (by rfl) rfl) rfl (.c rfl .nil) .nil ?_
       refine .v (f_extract (by rfl) rfl) rfl (.c rfl .nil) .nil ?_
       refine .n (f_alloc 14 (by rfl) zrv26) rfl .nil rfl ?_
       refine .s (f_store (n := 0) (o := 14) (off := 0) (p := []) (c := .st [.d (eA22 (List.replicate 32 (0 : Int))), .d (.val (.slice none 0 0))]) (old := .st [.d (eA22 (List.replicate 32 (0 : Int))), .d (.val (.slice none 0 0))]) (z := .d (eGLine y24.1)) (c' := .d (eGLine y24.1)) rfl rfl (by rfl) ty26 (by rfl)) rfl (.c rfl (.c rfl .nil)) (.cons rfl .nil) ?_
       refine .v (f_assign (by rfl)) rfl (.c rfl .nil) .nil ?_
       refine .v (f_assign (by rfl)) rfl (.c rfl .nil) .nil ?_
       refine .nil (by kernel_rfl) ?_
       refine aw_rs ?_
       refine .mv rfl (by rfl) ?_
       refine .nil (aq_then ?_)
       refine aw_block ?_
       refine aw_rs ?_
       refine .v (f_binI (by rfl) rfl (by rfl)) rfl (.c rfl (.c rfl .nil)) .nil ?_
       refine .as rfl (by rfl) ?_
       refine .nil (aq_then ?_)
       refine aw_cond rfl (fun hc26 => ?_) (fun hc26 => ?_)
       · replace h := ite_t hc26 h
         refine aw_r ?_
         refine .mv rfl (by rfl) ?_
         refine .v (f_load (n := 0) (o := 14) (off := 0) (p := []) (c := .d (eGLine y24.1)) (z := .d (eGLine y24.1)) (by rfl) rfl ty26 (by rfl)) rfl (.c rfl .nil) (.cons rfl .nil) ?_
         obtain ⟨y27, hy28, h⟩ := bind_some h
         refine .w (f_callG (xs := [.ptr 34 0 [], .d (eGLine y24.1)]) (r := .res []) (hw := [(34, .av (.st [.st [.slc 1118 0 ((y27).length) 33]])), (1114, .dead), (1118, .av (.d (.arr 33 ((y27).length) ((y27).map eGLine))))]) (fun i => bif Nat.beq i 1090 then 1118 else (bif Nat.beq i 1 then 1114 else (bif Nat.beq i 0 then 34 else i))) [] hgl (by rfl) (cal_f en95) rfl (by rfl) (by rfl) (by rfl) (by rfl) (.cons (.same _) (.cons (.same _) .nil)) rfl rfl rfl rfl (F95_shard_part_set_ddb_ok hy28)) rfl (.c rfl (.c rfl .nil)) (.cons rfl (.cons rfl .nil)) (.cons rfl .nil) ?_
         refine .nil ?_
         refine aq_block ?_
         refine aq_block ?_
         obtain rfl := Option.some.inj h
         refine aq_weak (s' := ⟨[(4, .ptr 4 0 []), (6, .ptr 6 0 []), (8, .ptr 34 0 []), (35, .d (eL24 a2)), (36, .d (.val (.int .i64 ((a2).length : Int)))), (37, .d (.val (.int .i64 z0_0)))], [(4, .av (.d (eGTree a1))), (6, .av (.st [.d (.val (.slice none 0 0))])), (34, .av (.st [.st [.slc 1114 0 ((y27).length) 33]])), (1114, .av (.d (.arr 33 ((y27).length) ((y27).map eGLine))))], []⟩) (fun i => (bif Nat.beq i 1114 then 1118 else i)) hb0 (.cons rfl (.cons rfl (.cons rfl (.cons rfl (.cons rfl (.cons rfl .nil)))))) (.cons rfl (.cons rfl (.cons rfl (.cons rfl .nil)))) rfl (by rfl) ?_
         exact jq
       replace h := ite_f hc26 h
       refine aw_rs ?_
       refine .v (f_binI (by rfl) rfl (by rfl)) rfl (.c rfl (.c rfl .nil)) .nil ?_
       refine .as rfl (by rfl) ?_
       refine .nil (aq_then ?_)
       refine aw_cond rfl (fun hc29 => ?_) (fun hc29 => ?_)
       · replace h := ite_t hc29 h
         refine aw_rs ?_
         refine .v (f_build (xs := []) (z' := .st [.d (.val (.slice none 0 0))]) (by rfl) zrv74 ag74 rfl (by rfl) trivial (by rfl) (by rfl)) rfl .nil .nil ?_
         refine .mv rfl (by rfl) ?_
         refine .s (f_store (n := 0) (o := 6) (off := 0) (p := []) (c := .st [.d (.val (.slice none 0 0))]) (old := .st [.d (.val (.slice none 0 0))]) (z := .st [.d (.val (.slice none 0 0))]) (c' := .st [.d (.val (.slice none 0 0))]) rfl rfl (by rfl) ty74 (by rfl)) rfl (.c rfl (.c rfl .nil)) (.cons rfl .nil) ?_
         refine .as rfl (by rfl) ?_
         refine .nil (aq_then ?_)
         refine aw_ret ?_
         refine aq_block_ret ?_
         refine aq_block_ret ?_
         obtain rfl := Option.some.inj h
         refine aq_weak (s' := ⟨[(6, .ptr 6 0 []), (7, .d (.val (.int .i64 y24.2.2)))], [(6, .av (.st [.d (.val (.slice none 0 0))]))], []⟩) id hb0 (.keep rfl (.keep rfl .nil)) (.keep rfl .nil) rfl (by rfl) ?_
         exact jq
       replace h := ite_f hc29 h
       refine aw_skip ?_
       refine aq_block ?_
       refine aq_block ?_
       obtain rfl := Option.some.inj h
       refine aq_weak (s' := ⟨[(4, .ptr 4 0 []), (6, .ptr 6 0 []), (8, .ptr 34 0 []), (35, .d (eL24 a2)), (36, .d (.val (.int .i64 ((a2).length : Int)))), (37, .d (.val (.int .i64 z0_0)))], [(4, .av (.d (eGTree a1))), (6, .av (.st [.d (.val (.slice none 0 0))])), (34, .av (.st [.st [.slc 1114 0 ((z0_1).length) 33]])), (1114, .av (.d (.arr 33 ((z0_1).length) ((z0_1).map eGLine))))], []⟩) id hb0 (.keep rfl (.keep rfl (.keep rfl (.keep rfl (.keep rfl (.keep rfl .nil)))))) (.keep rfl (.keep rfl (.keep rfl (.keep rfl .nil)))) rfl (by rfl) ?_
       exact jq
     rcases o30 with j30 | j30
     · replace h := elim_l h
       refine aq_then ?_
       refine aw_r ?_
       refine .v (f_binI (by rfl) rfl (by rfl)) rfl (.c rfl (.c rfl .nil)) .nil ?_
       refine .mv rfl (by rfl) ?_
       refine .nil ?_
       obtain rfl := Option.some.inj h
       refine aq_weak (s' := ⟨[(4, .ptr 4 0 []), (6, .ptr 6 0 []), (8, .ptr 34 0 []), (35, .d (eL24 a2)), (36, .d (.val (.int .i64 ((a2).length : Int)))), (37, .d (.val (.int .i64 (IntKind.i64.wrap (z0_0 + (1 : Int))))))], [(4, .av (.d (eGTree a1))), (6, .av (.st [.d (.val (.slice none 0 0))])), (34, .av (.st [.st [.slc 1114 0 ((j30).length) 33]])), (1114, .av (.d (.arr 33 ((j30).length) ((j30).map eGLine))))], []⟩) id hb0 (.keep rfl (.keep rfl (.keep rfl (.keep rfl (.keep rfl (.keep rfl .nil)))))) (.keep rfl (.keep rfl (.keep rfl (.keep rfl .nil)))) rfl (by rfl) ?_
       exact jq
     replace h := elim_r h
     refine aq_then_ret ?_
     obtain rfl := Option.some.inj h
     refine aq_weak (s' := ⟨[(6, .ptr 6 0 []), (7, .d (.val (.int .i64 j30)))], [(6, .av (.st [.d (.val (.slice none 0 0))]))], []⟩) id hb0 (.keep rfl (.keep rfl .nil)) (.keep rfl .nil) rfl (by rfl) ?_
     exact jq
   replace h := ite_f hc13 h
   refine aw_exit ?_
   refine aq_then_exit ?_
   obtain rfl := Option.some.inj h
   refine aq_weak (s' := ⟨[(6, .ptr 6 0 []), (8, .ptr 34 0 [])], [(6, .av (.st [.d (.val (.slice none 0 0))])), (34, .av (.st [.st [.slc 1114 0 ((z0_1).length) 33]])), (1114, .av (.d (.arr 33 ((z0_1).length) ((z0_1).map eGLine))))], []⟩) id hb0 (.keep rfl (.keep rfl .nil)) (.keep rfl (.keep rfl (.keep rfl .nil))) rfl (by rfl) ?_
   exact jq
 rcases o32 with j32 | j32
 · replace h := elim_l h
   refine aq_block_exit ?_
   refine aq_then ?_
   refine aw_rs ?_
   refine .mv rfl (by rfl) ?_
   refine .v (f_nilCheck (by rfl)) rfl (.c rfl .nil) .nil ?_
   refine .v (f_fieldAddr (n := 0) (by rfl) fl132_0 (by decide)) rfl (.c rfl .nil) .nil ?_
   refine .v (f_load (n := 0) (o := 34) (off := (0 + 0)) (p := [0]) (c := .st [.st [.slc 1114 0 ((j32).length) 33]]) (z := .st [.slc 1114 0 ((j32).length) 33]) (by rfl) rfl ty74 (by rfl)) rfl (.c rfl .nil) (.cons rfl .nil) ?_
   refine .s (f_store (n := 0) (o := 6) (off := 0) (p := []) (c := .st [.d (.val (.slice none 0 0))]) (old := .st [.d (.val (.slice none 0 0))]) (z := .st [.slc 1114 0 ((j32).length) 33]) (c' := .st [.slc 1114 0 ((j32).length) 33]) rfl rfl (by rfl) ty74 (by rfl)) rfl (.c rfl (.c rfl .nil)) (.cons rfl .nil) ?_
   refine .as rfl (by rfl) ?_
   refine .nil (aq_then ?_)
   refine aw_ret ?_
   obtain rfl := Option.some.inj h
   refine aq_freezeH [(1114, (.arr 33 ((j32).length) ((j32).map eGLine)))] [(6, .ptr 6 0 []), (7, .d (.val (.int .i64 (0 : Int))))] [(6, .av (.d (eGShard (⟨j32⟩ : GShard)))), (34, .av (.d (eGshard_part (⟨(⟨j32⟩ : GShard)⟩ : Gshard_part))))] (.cons rfl .nil) (.keep rfl (.keep rfl .nil)) (.cons rfl (by rfl) (.st (.cons (.whole (.head _)) .nil)) (.cons rfl (by rfl) (.st (.cons (.st (.cons (.whole (.head _)) .nil)) .nil)) .nil)) ?_
   exact aq_finp hb0 rfl (.cell rfl rfl ty74 (by rfl) (.tmp rfl (by rfl) .nil)) (by rfl) rfl ⟨rfl, rfl⟩
 replace h := elim_r h
 refine aq_block_ret ?_
 refine aq_then_ret ?_
 obtain rfl := Option.some.inj h
 refine aq_freezeH [] [(6, .ptr 6 0 []), (7, .d (.val (.int .i64 j32)))] [(6, .av (.d (eGShard (⟨[]⟩ : GShard))))] .nil (.keep rfl (.keep rfl .nil)) (.cons rfl (by rfl) (.st (.cons .nil .nil)) .nil) ?_
 exact aq_finp hb0 rfl (.cell rfl rfl ty74 (by rfl) (.tmp rfl (by rfl) .nil)) (by rfl) rfl ⟨rfl, rfl⟩

/- 48: beadroll/beadrolllaw20.alive -/
def F48_beadrolllaw20_alive (n : Nat)  : Option (Bool) :=
  ((F70_beadrolllaw20_two n ).bind fun (y1 : GShard) => ((F71_beadrolllaw20_one n (2 : Int) (0 : Int) (5 : Int)).bind fun (y3 : GTx) => ((F50_shard_Submit n y1 (2 : Int) (0 : Int) y3).bind fun (y5 : GShard × (List GTx) × Int) => ((F70_beadrolllaw20_two n ).bind fun (y7 : GShard) => ((F71_beadrolllaw20_one n (2 : Int) (0 : Int) (6 : Int)).bind fun (y9 : GTx) => ((F50_shard_Submit n y7 (2 : Int) (0 : Int) y9).bind fun (y11 : GShard × (List GTx) × Int) => ((((F70_beadrolllaw20_two n ).bind fun (y13 : GShard) => ((F53_shard_Count n y13).bind fun (y15 : Int) => (if (y15 == (2 : Int)) = true then (if (y5.2.2 == (9 : Int)) = true then (if (y11.2.2 == (0 : Int)) = true then ((F53_shard_Count n y11.1).bind fun (y20 : Int) => (if (y20 == (2 : Int)) = true then ((F71_beadrolllaw20_one n (1 : Int) (1 : Int) (5 : Int)).bind fun (y23 : GTx) => ((F20_beadrollref19_SameTxs n y11.2.1 ([y23] : List GTx)).bind fun (y25 : Bool) => some y25)) else some false)) else some false) else some false) else some false)))).bind fun (o27 : Bool) => some o27)))))))
theorem F48_beadrolllaw20_alive_ok {n : Nat}  {r : Bool} (h : F48_beadrolllaw20_alive n  = some r) :
    ACall Tryd.prog GS 48 [] [] (fun r' hp' => r' = .d (.val (.bool r)) ∧ hp' = []) := by
 refine acall_of_body mixed Tryd.func48 rfl (by rfl) ?_
 intro C hro hgl hb0
 unfold F48_beadrolllaw20_alive at h
 refine aw_rs ?_
 refine .as rfl (by rfl) ?_
 refine .nil (aq_then ?_)
 refine aw_rs ?_
 obtain ⟨y1, hy2, h⟩ := bind_some h
 refine .v (f_callP hgl (by rfl) en70 rfl (by rfl) (by rfl) (by rfl) (F70_beadrolllaw20_two_ok hy2)) rfl .nil .nil ?_
 obtain ⟨y3, hy4, h⟩ := bind_some h
 refine .v (f_callP hgl (by rfl) en71 rfl (by rfl) (by rfl) (by rfl) (F71_beadrolllaw20_one_ok hy4)) rfl (.c rfl (.c rfl (.c rfl .nil))) .nil ?_
 obtain ⟨y5, hy6, h⟩ := bind_some h
 refine .v (f_callP hgl (by rfl) en50 rfl (by rfl) (by rfl) (by rfl) (F50_shard_Submit_ok hy6)) rfl (.c rfl (.c rfl (.c rfl (.c rfl .nil)))) .nil ?_
 refine .mv rfl (by rfl) ?_
 refine .v (f_extract (by rfl) rfl) rfl (.c rfl .nil) .nil ?_
 refine .v (f_extract (by rfl) rfl) rfl (.c rfl .nil) .nil ?_
 refine .v (f_extract (by rfl) rfl) rfl (.c rfl .nil) .nil ?_
 refine .n (f_alloc 1 (by rfl) zrv74) rfl .nil rfl ?_
 refine .s (f_store (n := 0) (o := 1) (off := 0) (p := []) (c := .st [.d (.val (.slice none 0 0))]) (old := .st [.d (.val (.slice none 0 0))]) (z := .d (eGShard y5.1)) (c' := .d (eGShard y5.1)) rfl rfl (by rfl) ty74 (by rfl)) rfl (.c rfl (.c rfl .nil)) (.cons rfl .nil) ?_
 refine .as rfl (by rfl) ?_
 refine .as rfl (by rfl) ?_
 refine .nil (aq_then ?_)
 refine aw_rs ?_
 obtain ⟨y7, hy8, h⟩ := bind_some h
 refine .v (f_callP hgl (by rfl) en70 rfl (by rfl) (by rfl) (by rfl) (F70_beadrolllaw20_two_ok hy8)) rfl .nil .nil ?_
 obtain ⟨y9, hy10, h⟩ := bind_some h
 refine .v (f_callP hgl (by rfl) en71 rfl (by rfl) (by rfl) (by rfl) (F71_beadrolllaw20_one_ok hy10)) rfl (.c rfl (.c rfl (.c rfl .nil))) .nil ?_
 obtain ⟨y11, hy12, h⟩ := bind_some h
 refine .v (f_callP hgl (by rfl) en50 rfl (by rfl) (by rfl) (by rfl) (F50_shard_Submit_ok hy12)) rfl (.c rfl (.c rfl (.c rfl (.c rfl .nil)))) .nil ?_
 refine .mv rfl (by rfl) ?_
 refine .v (f_extract (by rfl) rfl) rfl (.c rfl .nil) .nil ?_
 refine .v (f_extract (by rfl) rfl) rfl (.c rfl .nil) .nil ?_
 refine .v (f_extract (by rfl) rfl) rfl (.c rfl .nil) .nil ?_
 refine .n (f_alloc 4 (by rfl) zrv74) rfl .nil rfl ?_
 refine .s (f_store (n := 0) (o := 4) (off := 0) (p := []) (c := .st [.d (.val (.slice none 0 0))]) (old := .st [.d (.val (.slice none 0 0))]) (z := .d (eGShard y11.1)) (c' := .d (eGShard y11.1)) rfl rfl (by rfl) ty74 (by rfl)) rfl (.c rfl (.c rfl .nil)) (.cons rfl .nil) ?_
 refine .as rfl (by rfl) ?_
 refine .as rfl (by rfl) ?_
 refine .nil (aq_then ?_)
 refine aw_seq ?_
 obtain ⟨o27, ho28, h⟩ := bind_some h
 refine aw_join (.normal) ⟨[(0, .d (.val (.bool o27)))], [], []⟩ ?_ ?_
 · replace h := ho28
   refine aw_r ?_
   obtain ⟨y13, hy14, h⟩ := bind_some h
   refine .v (f_callP hgl (by rfl) en70 rfl (by rfl) (by rfl) (by rfl) (F70_beadrolllaw20_two_ok hy14)) rfl .nil .nil ?_
   obtain ⟨y15, hy16, h⟩ := bind_some h
   refine .v (f_callP hgl (by rfl) en53 rfl (by rfl) (by rfl) (by rfl) (F53_shard_Count_ok hy16)) rfl (.c rfl .nil) .nil ?_
   refine .v (f_binI (by rfl) rfl (by rfl)) rfl (.c rfl (.c rfl .nil)) .nil ?_
   refine .mv rfl (by rfl) ?_
   rcases Bool.eq_false_or_eq_true (y15 == (2 : Int)) with hc17 | hc17
   · replace h := ite_t hc17 h
     refine .gv (f_move (by rfl)) rfl rfl rfl hc17 (.c rfl .nil) .nil ?_
     refine .gv (f_binI (by rfl) rfl (by rfl)) rfl rfl rfl hc17 (.c rfl (.c rfl .nil)) .nil ?_
     refine .v (f_pick_true (by rfl) hc17) rfl (.c rfl (.c rfl .nil)) .nil ?_
     refine .mv rfl (by rfl) ?_
     rcases Bool.eq_false_or_eq_true (y5.2.2 == (9 : Int)) with hc18 | hc18
     · replace h := ite_t hc18 h
       refine .gv (f_move (by rfl)) rfl rfl rfl hc18 (.c rfl .nil) .nil ?_
       refine .gv (f_binI (by rfl) rfl (by rfl)) rfl rfl rfl hc18 (.c rfl (.c rfl .nil)) .nil ?_
       refine .v (f_pick_true (by rfl) hc18) rfl (.c rfl (.c rfl .nil)) .nil ?_
       refine .mv rfl (by rfl) ?_
       rcases Bool.eq_false_or_eq_true (y11.2.2 == (0 : Int)) with hc19 | hc19
       · replace h := ite_t hc19 h
         refine .gv (f_load (n := 0) (o := 4) (off := 0) (p := []) (c := .d (eGShard y11.1)) (z := .d (eGShard y11.1)) (by rfl) rfl ty74 (by rfl)) rfl rfl rfl hc19 (.c rfl .nil) (.cons rfl .nil) ?_
         obtain ⟨y20, hy21, h⟩ := bind_some h
         refine .gv (f_callP hgl (by rfl) en53 rfl (by rfl) (by rfl) (by rfl) (F53_shard_Count_ok hy21)) rfl rfl rfl hc19 (.c rfl .nil) .nil ?_
         refine .gv (f_binI (by rfl) rfl (by rfl)) rfl rfl rfl hc19 (.c rfl (.c rfl .nil)) .nil ?_
         refine .v (f_pick_true (by rfl) hc19) rfl (.c rfl (.c rfl .nil)) .nil ?_
         refine .mv rfl (by rfl) ?_
         rcases Bool.eq_false_or_eq_true (y20 == (2 : Int)) with hc22 | hc22
         · replace h := ite_t hc22 h
           refine .gv (f_move (by rfl)) rfl rfl rfl hc22 (.c rfl .nil) .nil ?_
           obtain ⟨y23, hy24, h⟩ := bind_some h
           refine .gv (f_callP hgl (by rfl) en71 rfl (by rfl) (by rfl) (by rfl) (F71_beadrolllaw20_one_ok hy24)) rfl rfl rfl hc22 (.c rfl (.c rfl (.c rfl .nil))) .nil ?_
           refine .gw (f_buildS (xs := [(0, .d (eGTx y23))]) (z := (.st [(eA22 (List.replicate 32 (0 : Int))), (eA22 (List.replicate 32 (0 : Int))), (.val (.int .u64 (0 : Int))), (.val (.int .u64 (0 : Int))), (.val (.int .u64 (0 : Int))), (eA22 (List.replicate 32 (0 : Int)))])) (zs := (([y23] : List GTx)).map eGTx) 1119 (by rfl) el24 zel24 (by rfl) (by decide) (by decide) rfl (by rfl) ⟨_, _, _, rfl, pl24_0, rfl, rfl, trivial⟩ (by rfl)) rfl rfl rfl hc22 (.c rfl .nil) .nil (.cons rfl .nil) ?_
           obtain ⟨y25, hy26, h⟩ := bind_some h
           refine .gw (f_callH0 (xs := [.d (eL24 y11.2.1), .slc 1119 0 ((([y23] : List GTx)).length) 99]) (r := .d (.val (.bool y25))) (hr := []) (fun i => i) [(1119, (.arr 99 ((([y23] : List GTx)).length) ((([y23] : List GTx)).map eGTx)))] hgl (by rfl) (cal_f en20) rfl (by rfl) (by rfl) (by rfl) (by rfl) (by rfl) (.cons (.same _) (.cons (.whole (.head _)) .nil)) rfl rfl (flat_val) trivial (F20_beadrollref19_SameTxs_ok hy26)) rfl rfl rfl hc22 (.c rfl (.c rfl .nil)) (.cons rfl .nil) .nil ?_
           refine .v (f_pick_true (by rfl) hc22) rfl (.c rfl (.c rfl .nil)) .nil ?_
           refine .as rfl (by rfl) ?_
           refine .nil ?_
           obtain rfl := Option.some.inj h
           refine aq_weak (s' := ⟨[(0, .d (.val (.bool y25)))], [], []⟩) id hb0 (.keep rfl .nil) .nil rfl (by rfl) ?_
           exact jq
         replace h := ite_f hc22 h
         refine .off rfl rfl rfl hc22 rfl (by rfl) ?_
         refine .off rfl rfl rfl hc22 rfl (by rfl) ?_
         refine .off rfl rfl rfl hc22 rfl (by rfl) ?_
         refine .off rfl rfl rfl hc22 rfl (by rfl) ?_
         refine .v (f_pick_false (by rfl) hc22) rfl (.c rfl (.c rfl .nil)) .nil ?_
         refine .as rfl (by rfl) ?_
         refine .nil ?_
         obtain rfl := Option.some.inj h
         refine aq_weak (s' := ⟨[(0, .d (.val (.bool false)))], [], []⟩) id hb0 (.keep rfl .nil) .nil rfl (by rfl) ?_
         exact jq
       replace h := ite_f hc19 h
       refine .off rfl rfl rfl hc19 rfl (by rfl) ?_
       refine .off rfl rfl rfl hc19 rfl (by rfl) ?_
       refine .off rfl rfl rfl hc19 rfl (by rfl) ?_
       refine .v (f_pick_false (by rfl) hc19) rfl (.c rfl (.c rfl .nil)) .nil ?_
       refine .mv rfl (by rfl) ?_
       refine .off rfl rfl rfl rfl rfl (by rfl) ?_
       refine .off rfl rfl rfl rfl rfl (by rfl) ?_
       refine .off rfl rfl rfl rfl rfl (by rfl) ?_
       refine .off rfl rfl rfl rfl rfl (by rfl) ?_
       refine .v (f_pick_false (by rfl) rfl) rfl (.c rfl (.c rfl .nil)) .nil ?_
       refine .as rfl (by rfl) ?_
       refine .nil ?_
       obtain rfl := Option.some.inj h
       refine aq_weak (s' := ⟨[(0, .d (.val (.bool false)))], [], []⟩) id hb0 (.keep rfl .nil) .nil rfl (by rfl) ?_
       exact jq
     replace h := ite_f hc18 h
     refine .off rfl rfl rfl hc18 rfl (by rfl) ?_
     refine .off rfl rfl rfl hc18 rfl (by rfl) ?_
     refine .v (f_pick_false (by rfl) hc18) rfl (.c rfl (.c rfl .nil)) .nil ?_
     refine .mv rfl (by rfl) ?_
     refine .off rfl rfl rfl rfl rfl (by rfl) ?_
     refine .off rfl rfl rfl rfl rfl (by rfl) ?_
     refine .off rfl rfl rfl rfl rfl (by rfl) ?_
     refine .v (f_pick_false (by rfl) rfl) rfl (.c rfl (.c rfl .nil)) .nil ?_
     refine .mv rfl (by rfl) ?_
     refine .off rfl rfl rfl rfl rfl (by rfl) ?_
     refine .off rfl rfl rfl rfl rfl (by rfl) ?_
     refine .off rfl rfl rfl rfl rfl (by rfl) ?_
     refine .off rfl rfl rfl rfl rfl (by rfl) ?_
     refine .v (f_pick_false (by rfl) rfl) rfl (.c rfl (.c rfl .nil)) .nil ?_
     refine .as rfl (by rfl) ?_
     refine .nil ?_
     obtain rfl := Option.some.inj h
     refine aq_weak (s' := ⟨[(0, .d (.val (.bool false)))], [], []⟩) id hb0 (.keep rfl .nil) .nil rfl (by rfl) ?_
     exact jq
   replace h := ite_f hc17 h
   refine .off rfl rfl rfl hc17 rfl (by rfl) ?_
   refine .off rfl rfl rfl hc17 rfl (by rfl) ?_
   refine .v (f_pick_false (by rfl) hc17) rfl (.c rfl (.c rfl .nil)) .nil ?_
   refine .mv rfl (by rfl) ?_
   refine .off rfl rfl rfl rfl rfl (by rfl) ?_
   refine .off rfl rfl rfl rfl rfl (by rfl) ?_
   refine .v (f_pick_false (by rfl) rfl) rfl (.c rfl (.c rfl .nil)) .nil ?_
   refine .mv rfl (by rfl) ?_
   refine .off rfl rfl rfl rfl rfl (by rfl) ?_
   refine .off rfl rfl rfl rfl rfl (by rfl) ?_
   refine .off rfl rfl rfl rfl rfl (by rfl) ?_
   refine .v (f_pick_false (by rfl) rfl) rfl (.c rfl (.c rfl .nil)) .nil ?_
   refine .mv rfl (by rfl) ?_
   refine .off rfl rfl rfl rfl rfl (by rfl) ?_
   refine .off rfl rfl rfl rfl rfl (by rfl) ?_
   refine .off rfl rfl rfl rfl rfl (by rfl) ?_
   refine .off rfl rfl rfl rfl rfl (by rfl) ?_
   refine .v (f_pick_false (by rfl) rfl) rfl (.c rfl (.c rfl .nil)) .nil ?_
   refine .as rfl (by rfl) ?_
   refine .nil ?_
   obtain rfl := Option.some.inj h
   refine aq_weak (s' := ⟨[(0, .d (.val (.bool false)))], [], []⟩) id hb0 (.keep rfl .nil) .nil rfl (by rfl) ?_
   exact jq
 refine aq_then ?_
 refine aw_ret ?_
 obtain rfl := Option.some.inj h
 exact aq_finp hb0 rfl (.tmp rfl (by rfl) .nil) (by rfl) rfl ⟨rfl, rfl⟩

/- 13: beadroll/beadrolllaw20.ShardNames -/
def F13_beadrolllaw20_ShardNames (n : Nat)  : Option (Bool) :=
  ((F70_beadrolllaw20_two n ).bind fun (y1 : GShard) => ((F71_beadrolllaw20_one n (1 : Int) (16 : Int) (9 : Int)).bind fun (y3 : GTx) => ((F50_shard_Submit n y1 (9 : Int) (0 : Int) y3).bind fun (y5 : GShard × (List GTx) × Int) => ((F70_beadrolllaw20_two n ).bind fun (y7 : GShard) => ((F71_beadrolllaw20_one n (1 : Int) (0 : Int) (9 : Int)).bind fun (y9 : GTx) => ((F50_shard_Submit n y7 (9 : Int) (1 : Int) y9).bind fun (y11 : GShard × (List GTx) × Int) => ((F70_beadrolllaw20_two n ).bind fun (y13 : GShard) => ((F65_shard_Draw n y13 (⟨[], (0 : Int)⟩ : GTree) (1 : Int)).bind fun (y15 : GShard × (List GTx) × Int) => ((F70_beadrolllaw20_two n ).bind fun (y17 : GShard) => ((F65_shard_Draw n y17 (⟨[], (0 : Int)⟩ : GTree) (9 : Int)).bind fun (y19 : GShard × (List GTx) × Int) => ((F70_beadrolllaw20_two n ).bind fun (y21 : GShard) => ((F50_shard_Submit n y21 (9 : Int) (0 : Int) (⟨(List.replicate 32 (0 : Int)), (List.replicate 32 (0 : Int)), (0 : Int), (0 : Int), (0 : Int), (List.replicate 32 (0 : Int))⟩ : GTx)).bind fun (y23 : GShard × (List GTx) × Int) => ((F63_shard_Back n y19.1 (⟨[], (0 : Int)⟩ : GTree) y19.2.1).bind fun (y25 : GShard × Int) => ((((F48_beadrolllaw20_alive n ).bind fun (y27 : Bool) => (if y27 = true then (if (y5.2.2 == (201 : Int)) = true then (if (y11.2.2 == (200 : Int)) = true then (if (y15.2.2 == (0 : Int)) = true then ((F71_beadrolllaw20_one n (1 : Int) (0 : Int) (5 : Int)).bind fun (y33 : GTx) => ((F20_beadrollref19_SameTxs n y15.2.1 ([y33] : List GTx)).bind fun (y35 : Bool) => (if y35 = true then (if (y19.2.2 == (0 : Int)) = true then (if (((y19.2.1).length : Int) == (2 : Int)) = true then (if (((y19.1.Lines).length : Int) == (0 : Int)) = true then (if (y23.2.2 == (110 : Int)) = true then (if (y25.2 == (0 : Int)) = true then ((F70_beadrolllaw20_two n ).bind fun (y43 : GShard) => ((F56_beadrollref20_Same n y25.1 y43).bind fun (y45 : Bool) => some y45)) else some false) else some false) else some false) else some false) else some false) else some false))) else some false) else some false) else some false) else some false))).bind fun (o47 : Bool) => some o47))))))))))))))
theorem F13_beadrolllaw20_ShardNames_ok {n : Nat}  {r : Bool} (h : F13_beadrolllaw20_ShardNames n  = some r) :
    ACall Tryd.prog GS 13 [] [] (fun r' hp' => r' = .d (.val (.bool r)) ∧ hp' = []) := by
 refine acall_of_body mixed Tryd.func13 rfl (by rfl) ?_
 intro C hro hgl hb0
 unfold F13_beadrolllaw20_ShardNames at h
 refine aw_rs ?_
 refine .as rfl (by rfl) ?_
 refine .nil (aq_then ?_)
 refine aw_rs ?_
 obtain ⟨y1, hy2, h⟩ := bind_some h
 refine .v (f_callP hgl (by rfl) en70 rfl (by rfl) (by rfl) (by rfl) (F70_beadrolllaw20_two_ok hy2)) rfl .nil .nil ?_
 obtain ⟨y3, hy4, h⟩ := bind_some h
 refine .v (f_callP hgl (by rfl) en71 rfl (by rfl) (by rfl) (by rfl) (F71_beadrolllaw20_one_ok hy4)) rfl (.c rfl (.c rfl (.c rfl .nil))) .nil ?_
 obtain ⟨y5, hy6, h⟩ := bind_some h
 refine .v (f_callP hgl (by rfl) en50 rfl (by rfl) (by rfl) (by rfl) (F50_shard_Submit_ok hy6)) rfl (.c rfl (.c rfl (.c rfl (.c rfl .nil)))) .nil ?_
 refine .mv rfl (by rfl) ?_
 refine .v (f_extract (by rfl) rfl) rfl (.c rfl .nil) .nil ?_
 refine .v (f_extract (by rfl) rfl) rfl (.c rfl .nil) .nil ?_
 refine .v (f_extract (by rfl) rfl) rfl (.c rfl .nil) .nil ?_
 refine .n (f_alloc 1 (by rfl) zrv74) rfl .nil rfl ?_
 refine .s (f_store (n := 0) (o := 1) (off := 0) (p := []) (c := .st [.d (.val (.slice none 0 0))]) (old := .st [.d (.val (.slice none 0 0))]) (z := .d (eGShard y5.1)) (c' := .d (eGShard y5.1)) rfl rfl (by rfl) ty74 (by rfl)) rfl (.c rfl (.c rfl .nil)) (.cons rfl .nil) ?_
 refine .as rfl (by rfl) ?_
 refine .as rfl (by rfl) ?_
 refine .nil (aq_then ?_)
 refine aw_rs ?_
 obtain ⟨y7, hy8, h⟩ := bind_some h
 refine .v (f_callP hgl (by rfl) en70 rfl (by rfl) (by rfl) (by rfl) (F70_beadrolllaw20_two_ok hy8)) rfl .nil .nil ?_
 obtain ⟨y9, hy10, h⟩ := bind_some h
 refine .v (f_callP hgl (by rfl) en71 rfl (by rfl) (by rfl) (by rfl) (F71_beadrolllaw20_one_ok hy10)) rfl (.c rfl (.c rfl (.c rfl .nil))) .nil ?_
 obtain ⟨y11, hy12, h⟩ := bind_some h
 refine .v (f_callP hgl (by rfl) en50 rfl (by rfl) (by rfl) (by rfl) (F50_shard_Submit_ok hy12)) rfl (.c rfl (.c rfl (.c rfl (.c rfl .nil)))) .nil ?_
 refine .mv rfl (by rfl) ?_
 refine .v (f_extract (by rfl) rfl) rfl (.c rfl .nil) .nil ?_
 refine .v (f_extract (by rfl) rfl) rfl (.c rfl .nil) .nil ?_
 refine .v (f_extract (by rfl) rfl) rfl (.c rfl .nil) .nil ?_
 refine .n (f_alloc 4 (by rfl) zrv74) rfl .nil rfl ?_
 refine .s (f_store (n := 0) (o := 4) (off := 0) (p := []) (c := .st [.d (.val (.slice none 0 0))]) (old := .st [.d (.val (.slice none 0 0))]) (z := .d (eGShard y11.1)) (c' := .d (eGShard y11.1)) rfl rfl (by rfl) ty74 (by rfl)) rfl (.c rfl (.c rfl .nil)) (.cons rfl .nil) ?_
 refine .as rfl (by rfl) ?_
 refine .as rfl (by rfl) ?_
 refine .nil (aq_then ?_)
 refine aw_rs ?_
 obtain ⟨y13, hy14, h⟩ := bind_some h
 refine .v (f_callP hgl (by rfl) en70 rfl (by rfl) (by rfl) (by rfl) (F70_beadrolllaw20_two_ok hy14)) rfl .nil .nil ?_
 refine .v (f_build (xs := []) (z' := .st [.d (.val (.slice none 0 0)), .d (.val (.int .i64 (0 : Int)))]) (by rfl) zrv90 ag90 rfl (by rfl) trivial (by rfl) (by rfl)) rfl .nil .nil ?_
 obtain ⟨y15, hy16, h⟩ := bind_some h
 refine .w (f_callG0 (xs := [.d (eGShard y13), .st [.d (.val (.slice none 0 0)), .d (.val (.int .i64 (0 : Int)))], .d (.val (.int .i64 (1 : Int)))]) (r := .res [.d (eGShard y15.1), .d (eL24 y15.2.1), .d (.val (.int .i64 y15.2.2))]) (fun i => i) [] hgl (by rfl) (cal_f en65) rfl (by rfl) (by rfl) (by rfl) (by rfl) (.cons (.same _) (.cons (.st (.cons .nil (.cons (.same _) .nil))) (.cons (.same _) .nil))) rfl rfl (F65_shard_Draw_ok hy16)) rfl (.c rfl (.c rfl (.c rfl .nil))) .nil .nil ?_
 refine .mv rfl (by rfl) ?_
 refine .v (f_extract (by rfl) rfl) rfl (.c rfl .nil) .nil ?_
 refine .v (f_extract (by rfl) rfl) rfl (.c rfl .nil) .nil ?_
 refine .v (f_extract (by rfl) rfl) rfl (.c rfl .nil) .nil ?_
 refine .n (f_alloc 7 (by rfl) zrv74) rfl .nil rfl ?_
 refine .s (f_store (n := 0) (o := 7) (off := 0) (p := []) (c := .st [.d (.val (.slice none 0 0))]) (old := .st [.d (.val (.slice none 0 0))]) (z := .d (eGShard y15.1)) (c' := .d (eGShard y15.1)) rfl rfl (by rfl) ty74 (by rfl)) rfl (.c rfl (.c rfl .nil)) (.cons rfl .nil) ?_
 refine .as rfl (by rfl) ?_
 refine .as rfl (by rfl) ?_
 refine .nil (aq_then ?_)
 refine aw_rs ?_
 obtain ⟨y17, hy18, h⟩ := bind_some h
 refine .v (f_callP hgl (by rfl) en70 rfl (by rfl) (by rfl) (by rfl) (F70_beadrolllaw20_two_ok hy18)) rfl .nil .nil ?_
 refine .v (f_build (xs := []) (z' := .st [.d (.val (.slice none 0 0)), .d (.val (.int .i64 (0 : Int)))]) (by rfl) zrv90 ag90 rfl (by rfl) trivial (by rfl) (by rfl)) rfl .nil .nil ?_
 obtain ⟨y19, hy20, h⟩ := bind_some h
 refine .w (f_callG0 (xs := [.d (eGShard y17), .st [.d (.val (.slice none 0 0)), .d (.val (.int .i64 (0 : Int)))], .d (.val (.int .i64 (9 : Int)))]) (r := .res [.d (eGShard y19.1), .d (eL24 y19.2.1), .d (.val (.int .i64 y19.2.2))]) (fun i => i) [] hgl (by rfl) (cal_f en65) rfl (by rfl) (by rfl) (by rfl) (by rfl) (.cons (.same _) (.cons (.st (.cons .nil (.cons (.same _) .nil))) (.cons (.same _) .nil))) rfl rfl (F65_shard_Draw_ok hy20)) rfl (.c rfl (.c rfl (.c rfl .nil))) .nil .nil ?_
 refine .mv rfl (by rfl) ?_
 refine .v (f_extract (by rfl) rfl) rfl (.c rfl .nil) .nil ?_
 refine .v (f_extract (by rfl) rfl) rfl (.c rfl .nil) .nil ?_
 refine .v (f_extract (by rfl) rfl) rfl (.c rfl .nil) .nil ?_
 refine .n (f_alloc 10 (by rfl) zrv74) rfl .nil rfl ?_
 refine .s (f_store (n := 0) (o := 10) (off := 0) (p := []) (c := .st [.d (.val (.slice none 0 0))]) (old := .st [.d (.val (.slice none 0 0))]) (z := .d (eGShard y19.1)) (c' := .d (eGShard y19.1)) rfl rfl (by rfl) ty74 (by rfl)) rfl (.c rfl (.c rfl .nil)) (.cons rfl .nil) ?_
 refine .as rfl (by rfl) ?_
 refine .as rfl (by rfl) ?_
 refine .nil (aq_then ?_)
 refine aw_rs ?_
 obtain ⟨y21, hy22, h⟩ := bind_some h
 refine .v (f_callP hgl (by rfl) en70 rfl (by rfl) (by rfl) (by rfl) (F70_beadrolllaw20_two_ok hy22)) rfl .nil .nil ?_
 refine .v (f_build (xs := []) (z' := .d (eGTx (⟨(List.replicate 32 (0 : Int)), (List.replicate 32 (0 : Int)), (0 : Int), (0 : Int), (0 : Int), (List.replicate 32 (0 : Int))⟩ : GTx))) (by rfl) zr36 ag36 rfl (by rfl) trivial (by rfl) (by rfl)) rfl .nil .nil ?_
 obtain ⟨y23, hy24, h⟩ := bind_some h
 refine .v (f_callP hgl (by rfl) en50 rfl (by rfl) (by rfl) (by rfl) (F50_shard_Submit_ok hy24)) rfl (.c rfl (.c rfl (.c rfl (.c rfl .nil)))) .nil ?_
 refine .mv rfl (by rfl) ?_
 refine .v (f_extract (by rfl) rfl) rfl (.c rfl .nil) .nil ?_
 refine .v (f_extract (by rfl) rfl) rfl (.c rfl .nil) .nil ?_
 refine .v (f_extract (by rfl) rfl) rfl (.c rfl .nil) .nil ?_
 refine .n (f_alloc 13 (by rfl) zrv74) rfl .nil rfl ?_
 refine .s (f_store (n := 0) (o := 13) (off := 0) (p := []) (c := .st [.d (.val (.slice none 0 0))]) (old := .st [.d (.val (.slice none 0 0))]) (z := .d (eGShard y23.1)) (c' := .d (eGShard y23.1)) rfl rfl (by rfl) ty74 (by rfl)) rfl (.c rfl (.c rfl .nil)) (.cons rfl .nil) ?_
 refine .as rfl (by rfl) ?_
 refine .as rfl (by rfl) ?_
 refine .nil (aq_then ?_)
 refine aw_rs ?_
 refine .v (f_load (n := 0) (o := 10) (off := 0) (p := []) (c := .d (eGShard y19.1)) (z := .d (eGShard y19.1)) (by rfl) rfl ty74 (by rfl)) rfl (.c rfl .nil) (.cons rfl .nil) ?_
 refine .v (f_build (xs := []) (z' := .st [.d (.val (.slice none 0 0)), .d (.val (.int .i64 (0 : Int)))]) (by rfl) zrv90 ag90 rfl (by rfl) trivial (by rfl) (by rfl)) rfl .nil .nil ?_
 refine .mv rfl (by rfl) ?_
 obtain ⟨y25, hy26, h⟩ := bind_some h
 refine .w (f_callG0 (xs := [.d (eGShard y19.1), .st [.d (.val (.slice none 0 0)), .d (.val (.int .i64 (0 : Int)))], .d (eL24 y19.2.1)]) (r := .res [.d (eGShard y25.1), .d (.val (.int .i64 y25.2))]) (fun i => i) [] hgl (by rfl) (cal_f en63) rfl (by rfl) (by rfl) (by rfl) (by rfl) (.cons (.same _) (.cons (.st (.cons .nil (.cons (.same _) .nil))) (.cons (.same _) .nil))) rfl rfl (F63_shard_Back_ok hy26)) rfl (.c rfl (.c rfl (.c rfl .nil))) .nil .nil ?_
 refine .mv rfl (by rfl) ?_
 refine .v (f_extract (by rfl) rfl) rfl (.c rfl .nil) .nil ?_
 refine .v (f_extract (by rfl) rfl) rfl (.c rfl .nil) .nil ?_
 refine .n (f_alloc 16 (by rfl) zrv74) rfl .nil rfl ?_
 refine .s (f_store (n := 0) (o := 16) (off := 0) (p := []) (c := .st [.d (.val (.slice none 0 0))]) (old := .st [.d (.val (.slice none 0 0))]) (z := .d (eGShard y25.1)) (c' := .d (eGShard y25.1)) rfl rfl (by rfl) ty74 (by rfl)) rfl (.c rfl (.c rfl .nil)) (.cons rfl .nil) ?_
 refine .as rfl (by rfl) ?_
 refine .nil (aq_then ?_)
 refine aw_seq ?_
 obtain ⟨o47, ho48, h⟩ := bind_some h
 refine aw_join (.normal) ⟨[(0, .d (.val (.bool o47)))], [], []⟩ ?_ ?_
 · replace h := ho48
   refine aw_rd ?_
   refine .v (f_move (by rfl)) rfl (.c rfl .nil) .nil ?_
   obtain ⟨y27, hy28, h⟩ := bind_some h
   refine .gv (f_callP hgl (by rfl) en48 rfl (by rfl) (by rfl) (by rfl) (F48_beadrolllaw20_alive_ok hy28)) rfl rfl rfl rfl .nil .nil ?_
   refine .v (f_pick_true (by rfl) rfl) rfl (.c rfl (.c rfl .nil)) .nil ?_
   refine .v (f_move (by rfl)) rfl (.c rfl .nil) .nil ?_
   rcases Bool.eq_false_or_eq_true y27 with hc29 | hc29
   · replace h := ite_t hc29 h
     refine .gv (f_move (by rfl)) rfl rfl rfl hc29 (.c rfl .nil) .nil ?_
     refine .gv (f_binI (by rfl) rfl (by rfl)) rfl rfl rfl hc29 (.c rfl (.c rfl .nil)) .nil ?_
     refine .v (f_pick_true (by rfl) hc29) rfl (.c rfl (.c rfl .nil)) .nil ?_
     refine .v (f_move (by rfl)) rfl (.c rfl .nil) .nil ?_
     rcases Bool.eq_false_or_eq_true (y5.2.2 == (201 : Int)) with hc30 | hc30
     · replace h := ite_t hc30 h
       refine .gv (f_move (by rfl)) rfl rfl rfl hc30 (.c rfl .nil) .nil ?_
       refine .gv (f_binI (by rfl) rfl (by rfl)) rfl rfl rfl hc30 (.c rfl (.c rfl .nil)) .nil ?_
       refine .v (f_pick_true (by rfl) hc30) rfl (.c rfl (.c rfl .nil)) .nil ?_
       refine .v (f_move (by rfl)) rfl (.c rfl .nil) .nil ?_
       rcases Bool.eq_false_or_eq_true (y11.2.2 == (200 : Int)) with hc31 | hc31
       · replace h := ite_t hc31 h
         refine .gv (f_move (by rfl)) rfl rfl rfl hc31 (.c rfl .nil) .nil ?_
         refine .gv (f_binI (by rfl) rfl (by rfl)) rfl rfl rfl hc31 (.c rfl (.c rfl .nil)) .nil ?_
         refine .v (f_pick_true (by rfl) hc31) rfl (.c rfl (.c rfl .nil)) .nil ?_
         refine .v (f_move (by rfl)) rfl (.c rfl .nil) .nil ?_
         rcases Bool.eq_false_or_eq_true (y15.2.2 == (0 : Int)) with hc32 | hc32
         · replace h := ite_t hc32 h
           refine .gv (f_move (by rfl)) rfl rfl rfl hc32 (.c rfl .nil) .nil ?_
           obtain ⟨y33, hy34, h⟩ := bind_some h
           refine .gv (f_callP hgl (by rfl) en71 rfl (by rfl) (by rfl) (by rfl) (F71_beadrolllaw20_one_ok hy34)) rfl rfl rfl hc32 (.c rfl (.c rfl (.c rfl .nil))) .nil ?_
           refine .gw (f_buildS (xs := [(0, .d (eGTx y33))]) (z := (.st [(eA22 (List.replicate 32 (0 : Int))), (eA22 (List.replicate 32 (0 : Int))), (.val (.int .u64 (0 : Int))), (.val (.int .u64 (0 : Int))), (.val (.int .u64 (0 : Int))), (eA22 (List.replicate 32 (0 : Int)))])) (zs := (([y33] : List GTx)).map eGTx) 1120 (by rfl) el24 zel24 (by rfl) (by decide) (by decide) rfl (by rfl) ⟨_, _, _, rfl, pl24_0, rfl, rfl, trivial⟩ (by rfl)) rfl rfl rfl hc32 (.c rfl .nil) .nil (.cons rfl .nil) ?_
           obtain ⟨y35, hy36, h⟩ := bind_some h
           refine .gw (f_callH0 (xs := [.d (eL24 y15.2.1), .slc 1120 0 ((([y33] : List GTx)).length) 99]) (r := .d (.val (.bool y35))) (hr := []) (fun i => i) [(1120, (.arr 99 ((([y33] : List GTx)).length) ((([y33] : List GTx)).map eGTx)))] hgl (by rfl) (cal_f en20) rfl (by rfl) (by rfl) (by rfl) (by rfl) (by rfl) (.cons (.same _) (.cons (.whole (.head _)) .nil)) rfl rfl (flat_val) trivial (F20_beadrollref19_SameTxs_ok hy36)) rfl rfl rfl hc32 (.c rfl (.c rfl .nil)) (.cons rfl .nil) .nil ?_
           refine .v (f_pick_true (by rfl) hc32) rfl (.c rfl (.c rfl .nil)) .nil ?_
           refine .v (f_move (by rfl)) rfl (.c rfl .nil) .nil ?_
           rcases Bool.eq_false_or_eq_true y35 with hc37 | hc37
           · replace h := ite_t hc37 h
             refine .gv (f_move (by rfl)) rfl rfl rfl hc37 (.c rfl .nil) .nil ?_
             refine .gv (f_binI (by rfl) rfl (by rfl)) rfl rfl rfl hc37 (.c rfl (.c rfl .nil)) .nil ?_
             refine .v (f_pick_true (by rfl) hc37) rfl (.c rfl (.c rfl .nil)) .nil ?_
             refine .v (f_move (by rfl)) rfl (.c rfl .nil) .nil ?_
             rcases Bool.eq_false_or_eq_true (y19.2.2 == (0 : Int)) with hc38 | hc38
             · replace h := ite_t hc38 h
               refine .gv (f_move (by rfl)) rfl rfl rfl hc38 (.c rfl .nil) .nil ?_
               refine .gv (f_lenD (n := (y19.2.1).length) (by rfl) sl24 rfl (by simp)) rfl rfl rfl hc38 (.c rfl .nil) .nil ?_
               refine .gv (f_binI (by rfl) rfl (by rfl)) rfl rfl rfl hc38 (.c rfl (.c rfl .nil)) .nil ?_
               refine .v (f_pick_true (by rfl) hc38) rfl (.c rfl (.c rfl .nil)) .nil ?_
               refine .v (f_move (by rfl)) rfl (.c rfl .nil) .nil ?_
               rcases Bool.eq_false_or_eq_true (((y19.2.1).length : Int) == (2 : Int)) with hc39 | hc39
               · replace h := ite_t hc39 h
                 refine .gv (f_fieldAddr (n := 0) (by rfl) fl74_0 (by decide)) rfl rfl rfl hc39 (.c rfl .nil) .nil ?_
                 refine .gv (f_load (n := 0) (o := 10) (off := (0 + 0)) (p := [0]) (c := .d (eGShard y19.1)) (z := .d (eL72 y19.1.Lines)) (by rfl) rfl ty72 (by rfl)) rfl rfl rfl hc39 (.c rfl .nil) (.cons rfl .nil) ?_
                 refine .gv (f_lenD (n := (y19.1.Lines).length) (by rfl) sl72 rfl (by simp)) rfl rfl rfl hc39 (.c rfl .nil) .nil ?_
                 refine .gv (f_binI (by rfl) rfl (by rfl)) rfl rfl rfl hc39 (.c rfl (.c rfl .nil)) .nil ?_
                 refine .v (f_pick_true (by rfl) hc39) rfl (.c rfl (.c rfl .nil)) .nil ?_
                 refine .v (f_move (by rfl)) rfl (.c rfl .nil) .nil ?_
                 rcases Bool.eq_false_or_eq_true (((y19.1.Lines).length : Int) == (0 : Int)) with hc40 | hc40
                 · replace h := ite_t hc40 h
                   refine .gv (f_move (by rfl)) rfl rfl rfl hc40 (.c rfl .nil) .nil ?_
                   refine .gv (f_binI (by rfl) rfl (by rfl)) rfl rfl rfl hc40 (.c rfl (.c rfl .nil)) .nil ?_
                   refine .v (f_pick_true (by rfl) hc40) rfl (.c rfl (.c rfl .nil)) .nil ?_
                   refine .v (f_move (by rfl)) rfl (.c rfl .nil) .nil ?_
                   rcases Bool.eq_false_or_eq_true (y23.2.2 == (110 : Int)) with hc41 | hc41
                   · replace h := ite_t hc41 h
                     refine .gv (f_move (by rfl)) rfl rfl rfl hc41 (.c rfl .nil) .nil ?_
                     refine .gv (f_binI (by rfl) rfl (by rfl)) rfl rfl rfl hc41 (.c rfl (.c rfl .nil)) .nil ?_
                     refine .v (f_pick_true (by rfl) hc41) rfl (.c rfl (.c rfl .nil)) .nil ?_
                     refine .v (f_move (by rfl)) rfl (.c rfl .nil) .nil ?_
                     rcases Bool.eq_false_or_eq_true (y25.2 == (0 : Int)) with hc42 | hc42
                     · replace h := ite_t hc42 h
                       refine .gv (f_load (n := 0) (o := 16) (off := 0) (p := []) (c := .d (eGShard y25.1)) (z := .d (eGShard y25.1)) (by rfl) rfl ty74 (by rfl)) rfl rfl rfl hc42 (.c rfl .nil) (.cons rfl .nil) ?_
                       obtain ⟨y43, hy44, h⟩ := bind_some h
                       refine .gv (f_callP hgl (by rfl) en70 rfl (by rfl) (by rfl) (by rfl) (F70_beadrolllaw20_two_ok hy44)) rfl rfl rfl hc42 .nil .nil ?_
                       obtain ⟨y45, hy46, h⟩ := bind_some h
                       refine .gv (f_callP hgl (by rfl) en56 rfl (by rfl) (by rfl) (by rfl) (F56_beadrollref20_Same_ok hy46)) rfl rfl rfl hc42 (.c rfl (.c rfl .nil)) .nil ?_
                       refine .v (f_pick_true (by rfl) hc42) rfl (.c rfl (.c rfl .nil)) .nil ?_
                       refine .v (f_assign (by rfl)) rfl (.c rfl .nil) .nil ?_
                       refine .nil (by kernel_rfl) ?_
                       obtain rfl := Option.some.inj h
                       refine aq_weak (s' := ⟨[(0, .d (.val (.bool y45)))], [], []⟩) id hb0 (.keep rfl .nil) .nil rfl (by rfl) ?_
                       exact jq
                     replace h := ite_f hc42 h
                     refine .off rfl rfl rfl hc42 rfl (by rfl) ?_
                     refine .off rfl rfl rfl hc42 rfl (by rfl) ?_
                     refine .off rfl rfl rfl hc42 rfl (by rfl) ?_
                     refine .v (f_pick_false (by rfl) hc42) rfl (.c rfl (.c rfl .nil)) .nil ?_
                     refine .v (f_assign (by rfl)) rfl (.c rfl .nil) .nil ?_
                     refine .nil (by kernel_rfl) ?_
                     obtain rfl := Option.some.inj h
                     refine aq_weak (s' := ⟨[(0, .d (.val (.bool false)))], [], []⟩) id hb0 (.keep rfl .nil) .nil rfl (by rfl) ?_
                     exact jq
                   replace h := ite_f hc41 h
                   refine .off rfl rfl rfl hc41 rfl (by rfl) ?_
                   refine .off rfl rfl rfl hc41 rfl (by rfl) ?_
                   refine .v (f_pick_false (by rfl) hc41) rfl (.c rfl (.c rfl .nil)) .nil ?_
                   refine .v (f_move (by rfl)) rfl (.c rfl .nil) .nil ?_
                   refine .off rfl rfl rfl rfl rfl (by rfl) ?_
                   refine .off rfl rfl rfl rfl rfl (by rfl) ?_
                   refine .off rfl rfl rfl rfl rfl (by rfl) ?_
                   refine .v (f_pick_false (by rfl) rfl) rfl (.c rfl (.c rfl .nil)) .nil ?_
                   refine .v (f_assign (by rfl)) rfl (.c rfl .nil) .nil ?_
                   refine .nil (by kernel_rfl) ?_
                   obtain rfl := Option.some.inj h
                   refine aq_weak (s' := ⟨[(0, .d (.val (.bool false)))], [], []⟩) id hb0 (.keep rfl .nil) .nil rfl (by rfl) ?_
                   exact jq
                 replace h := ite_f hc40 h
                 refine .off rfl rfl rfl hc40 rfl (by rfl) ?_
                 refine .off rfl rfl rfl hc40 rfl (by rfl) ?_
                 refine .v (f_pick_false (by rfl) hc40) rfl (.c rfl (.c rfl .nil)) .nil ?_
                 refine .v (f_move (by rfl)) rfl (.c rfl .nil) .nil ?_
                 refine .off rfl rfl rfl rfl rfl (by rfl) ?_
                 refine .off rfl rfl rfl rfl rfl (by rfl) ?_
                 refine .v (f_pick_false (by rfl) rfl) rfl (.c rfl (.c rfl .nil)) .nil ?_
                 refine .v (f_move (by rfl)) rfl (.c rfl .nil) .nil ?_
                 refine .off rfl rfl rfl rfl rfl (by rfl) ?_
                 refine .off rfl rfl rfl rfl rfl (by rfl) ?_
                 refine .off rfl rfl rfl rfl rfl (by rfl) ?_
                 refine .v (f_pick_false (by rfl) rfl) rfl (.c rfl (.c rfl .nil)) .nil ?_
                 refine .v (f_assign (by rfl)) rfl (.c rfl .nil) .nil ?_
                 refine .nil (by kernel_rfl) ?_
                 obtain rfl := Option.some.inj h
                 refine aq_weak (s' := ⟨[(0, .d (.val (.bool false)))], [], []⟩) id hb0 (.keep rfl .nil) .nil rfl (by rfl) ?_
                 exact jq
               replace h := ite_f hc39 h
               refine .off rfl rfl rfl hc39 rfl (by rfl) ?_
               refine .off rfl rfl rfl hc39 rfl (by rfl) ?_
               refine .off rfl rfl rfl hc39 rfl (by rfl) ?_
               refine .off rfl rfl rfl hc39 rfl (by rfl) ?_
               refine .v (f_pick_false (by rfl) hc39) rfl (.c rfl (.c rfl .nil)) .nil ?_
               refine .v (f_move (by rfl)) rfl (.c rfl .nil) .nil ?_
               refine .off rfl rfl rfl rfl rfl (by rfl) ?_
               refine .off rfl rfl rfl rfl rfl (by rfl) ?_
               refine .v (f_pick_false (by rfl) rfl) rfl (.c rfl (.c rfl .nil)) .nil ?_
               refine .v (f_move (by rfl)) rfl (.c rfl .nil) .nil ?_
               refine .off rfl rfl rfl rfl rfl (by rfl) ?_
               refine .off rfl rfl rfl rfl rfl (by rfl) ?_
               refine .v (f_pick_false (by rfl) rfl) rfl (.c rfl (.c rfl .nil)) .nil ?_
               refine .v (f_move (by rfl)) rfl (.c rfl .nil) .nil ?_
               refine .off rfl rfl rfl rfl rfl (by rfl) ?_
               refine .off rfl rfl rfl rfl rfl (by rfl) ?_
               refine .off rfl rfl rfl rfl rfl (by rfl) ?_
               refine .v (f_pick_false (by rfl) rfl) rfl (.c rfl (.c rfl .nil)) .nil ?_
               refine .v (f_assign (by rfl)) rfl (.c rfl .nil) .nil ?_
               refine .nil (by kernel_rfl) ?_
               obtain rfl := Option.some.inj h
               refine aq_weak (s' := ⟨[(0, .d (.val (.bool false)))], [], []⟩) id hb0 (.keep rfl .nil) .nil rfl (by rfl) ?_
               exact jq
             replace h := ite_f hc38 h
             refine .off rfl rfl rfl hc38 rfl (by rfl) ?_
             refine .off rfl rfl rfl hc38 rfl (by rfl) ?_
             refine .off rfl rfl rfl hc38 rfl (by rfl) ?_
             refine .v (f_pick_false (by rfl) hc38) rfl (.c rfl (.c rfl .nil)) .nil ?_
             refine .v (f_move (by rfl)) rfl (.c rfl .nil) .nil ?_
             refine .off rfl rfl rfl rfl rfl (by rfl) ?_
             refine .off rfl rfl rfl rfl rfl (by rfl) ?_
             refine .off rfl rfl rfl rfl rfl (by rfl) ?_
             refine .off rfl rfl rfl rfl rfl (by rfl) ?_
             refine .v (f_pick_false (by rfl) rfl) rfl (.c rfl (.c rfl .nil)) .nil ?_
             refine .v (f_move (by rfl)) rfl (.c rfl .nil) .nil ?_
             refine .off rfl rfl rfl rfl rfl (by rfl) ?_
             refine .off rfl rfl rfl rfl rfl (by rfl) ?_
             refine .v (f_pick_false (by rfl) rfl) rfl (.c rfl (.c rfl .nil)) .nil ?_
             refine .v (f_move (by rfl)) rfl (.c rfl .nil) .nil ?_
             refine .off rfl rfl rfl rfl rfl (by rfl) ?_
             refine .off rfl rfl rfl rfl rfl (by rfl) ?_
             refine .v (f_pick_false (by rfl) rfl) rfl (.c rfl (.c rfl .nil)) .nil ?_
             refine .v (f_move (by rfl)) rfl (.c rfl .nil) .nil ?_
             refine .off rfl rfl rfl rfl rfl (by rfl) ?_
             refine .off rfl rfl rfl rfl rfl (by rfl) ?_
             refine .off rfl rfl rfl rfl rfl (by rfl) ?_
             refine .v (f_pick_false (by rfl) rfl) rfl (.c rfl (.c rfl .nil)) .nil ?_
             refine .v (f_assign (by rfl)) rfl (.c rfl .nil) .nil ?_
             refine .nil (by kernel_rfl) ?_
             obtain rfl := Option.some.inj h
             refine aq_weak (s' := ⟨[(0, .d (.val (.bool false)))], [], []⟩) id hb0 (.keep rfl .nil) .nil rfl (by rfl) ?_
             exact jq
           replace h := ite_f hc37 h
           refine .off rfl rfl rfl hc37 rfl (by rfl) ?_
           refine .off rfl rfl rfl hc37 rfl (by rfl) ?_
           refine .v (f_pick_false (by rfl) hc37) rfl (.c rfl (.c rfl .nil)) .nil ?_
           refine .v (f_move (by rfl)) rfl (.c rfl .nil) .nil ?_
           refine .off rfl rfl rfl rfl rfl (by rfl) ?_
           refine .off rfl rfl rfl rfl rfl (by rfl) ?_
           refine .off rfl rfl rfl rfl rfl (by rfl) ?_
           refine .v (f_pick_false (by rfl) rfl) rfl (.c rfl (.c rfl .nil)) .nil ?_
           refine .v (f_move (by rfl)) rfl (.c rfl .nil) .nil ?_
           refine .off rfl rfl rfl rfl rfl (by rfl) ?_
           refine .off rfl rfl rfl rfl rfl (by rfl) ?_
           refine .off rfl rfl rfl rfl rfl (by rfl) ?_
           refine .off rfl rfl rfl rfl rfl (by rfl) ?_
           refine .v (f_pick_false (by rfl) rfl) rfl (.c rfl (.c rfl .nil)) .nil ?_
           refine .v (f_move (by rfl)) rfl (.c rfl .nil) .nil ?_
           refine .off rfl rfl rfl rfl rfl (by rfl) ?_
           refine .off rfl rfl rfl rfl rfl (by rfl) ?_
           refine .v (f_pick_false (by rfl) rfl) rfl (.c rfl (.c rfl .nil)) .nil ?_
           refine .v (f_move (by rfl)) rfl (.c rfl .nil) .nil ?_
           refine .off rfl rfl rfl rfl rfl (by rfl) ?_
           refine .off rfl rfl rfl rfl rfl (by rfl) ?_
           refine .v (f_pick_false (by rfl) rfl) rfl (.c rfl (.c rfl .nil)) .nil ?_
           refine .v (f_move (by rfl)) rfl (.c rfl .nil) .nil ?_
           refine .off rfl rfl rfl rfl rfl (by rfl) ?_
           refine .off rfl rfl rfl rfl rfl (by rfl) ?_
           refine .off rfl rfl rfl rfl rfl (by rfl) ?_
           refine .v (f_pick_false (by rfl) rfl) rfl (.c rfl (.c rfl .nil)) .nil ?_
           refine .v (f_assign (by rfl)) rfl (.c rfl .nil) .nil ?_
           refine .nil (by kernel_rfl) ?_
           obtain rfl := Option.some.inj h
           refine aq_weak (s' := ⟨[(0, .d (.val (.bool false)))], [], []⟩) id hb0 (.keep rfl .nil) .nil rfl (by rfl) ?_
           exact jq
         replace h := ite_f hc32 h
         refine .off rfl rfl rfl hc32 rfl (by rfl) ?_
         refine .off rfl rfl rfl hc32 rfl (by rfl) ?_
         refine .off rfl rfl rfl hc32 rfl (by rfl) ?_
         refine .off rfl rfl rfl hc32 rfl (by rfl) ?_
         refine .v (f_pick_false (by rfl) hc32) rfl (.c rfl (.c rfl .nil)) .nil ?_
         refine .v (f_move (by rfl)) rfl (.c rfl .nil) .nil ?_
         refine .off rfl rfl rfl rfl rfl (by rfl) ?_
         refine .off rfl rfl rfl rfl rfl (by rfl) ?_
         refine .v (f_pick_false (by rfl) rfl) rfl (.c rfl (.c rfl .nil)) .nil ?_
         refine .v (f_move (by rfl)) rfl (.c rfl .nil) .nil ?_
         refine .off rfl rfl rfl rfl rfl (by rfl) ?_
         refine .off rfl rfl rfl rfl rfl (by rfl) ?_
         refine .off rfl rfl rfl rfl rfl (by rfl) ?_
         refine .v (f_pick_false (by rfl) rfl) rfl (.c rfl (.c rfl .nil)) .nil ?_
         refine .v (f_move (by rfl)) rfl (.c rfl .nil) .nil ?_
         refine .off rfl rfl rfl rfl rfl (by rfl) ?_
         refine .off rfl rfl rfl rfl rfl (by rfl) ?_
         refine .off rfl rfl rfl rfl rfl (by rfl) ?_
         refine .off rfl rfl rfl rfl rfl (by rfl) ?_
         refine .v (f_pick_false (by rfl) rfl) rfl (.c rfl (.c rfl .nil)) .nil ?_
         refine .v (f_move (by rfl)) rfl (.c rfl .nil) .nil ?_
         refine .off rfl rfl rfl rfl rfl (by rfl) ?_
         refine .off rfl rfl rfl rfl rfl (by rfl) ?_
         refine .v (f_pick_false (by rfl) rfl) rfl (.c rfl (.c rfl .nil)) .nil ?_
         refine .v (f_move (by rfl)) rfl (.c rfl .nil) .nil ?_
         refine .off rfl rfl rfl rfl rfl (by rfl) ?_
         refine .off rfl rfl rfl rfl rfl (by rfl) ?_
         refine .v (f_pick_false (by rfl) rfl) rfl (.c rfl (.c rfl .nil)) .nil ?_
         refine .v (f_move (by rfl)) rfl (.c rfl .nil) .nil ?_
         refine .off rfl rfl rfl rfl rfl (by rfl) ?_
         refine .off rfl rfl rfl rfl rfl (by rfl) ?_
         refine .off rfl rfl rfl rfl rfl (by rfl) ?_
         refine .v (f_pick_false (by rfl) rfl) rfl (.c rfl (.c rfl .nil)) .nil ?_
         refine .v (f_assign (by rfl)) rfl (.c rfl .nil) .nil ?_
         refine .nil (by kernel_rfl) ?_
         obtain rfl := Option.some.inj h
         refine aq_weak (s' := ⟨[(0, .d (.val (.bool false)))], [], []⟩) id hb0 (.keep rfl .nil) .nil rfl (by rfl) ?_
         exact jq
       replace h := ite_f hc31 h
       refine .off rfl rfl rfl hc31 rfl (by rfl) ?_
       refine .off rfl rfl rfl hc31 rfl (by rfl) ?_
       refine .v (f_pick_false (by rfl) hc31) rfl (.c rfl (.c rfl .nil)) .nil ?_
       refine .v (f_move (by rfl)) rfl (.c rfl .nil) .nil ?_
       refine .off rfl rfl rfl rfl rfl (by rfl) ?_
       refine .off rfl rfl rfl rfl rfl (by rfl) ?_
       refine .off rfl rfl rfl rfl rfl (by rfl) ?_
       refine .off rfl rfl rfl rfl rfl (by rfl) ?_
       refine .v (f_pick_false (by rfl) rfl) rfl (.c rfl (.c rfl .nil)) .nil ?_
       refine .v (f_move (by rfl)) rfl (.c rfl .nil) .nil ?_
       refine .off rfl rfl rfl rfl rfl (by rfl) ?_
       refine .off rfl rfl rfl rfl rfl (by rfl) ?_
       refine .v (f_pick_false (by rfl) rfl) rfl (.c rfl (.c rfl .nil)) .nil ?_
       refine .v (f_move (by rfl)) rfl (.c rfl .nil) .nil ?_
       refine .off rfl rfl rfl rfl rfl (by rfl) ?_
       refine .off rfl rfl rfl rfl rfl (by rfl) ?_
       refine .off rfl rfl rfl rfl rfl (by rfl) ?_
       refine .v (f_pick_false (by rfl) rfl) rfl (.c rfl (.c rfl .nil)) .nil ?_
       refine .v (f_move (by rfl)) rfl (.c rfl .nil) .nil ?_
       refine .off rfl rfl rfl rfl rfl (by rfl) ?_
       refine .off rfl rfl rfl rfl rfl (by rfl) ?_
       refine .off rfl rfl rfl rfl rfl (by rfl) ?_
       refine .off rfl rfl rfl rfl rfl (by rfl) ?_
       refine .v (f_pick_false (by rfl) rfl) rfl (.c rfl (.c rfl .nil)) .nil ?_
       refine .v (f_move (by rfl)) rfl (.c rfl .nil) .nil ?_
       refine .off rfl rfl rfl rfl rfl (by rfl) ?_
       refine .off rfl rfl rfl rfl rfl (by rfl) ?_
       refine .v (f_pick_false (by rfl) rfl) rfl (.c rfl (.c rfl .nil)) .nil ?_
       refine .v (f_move (by rfl)) rfl (.c rfl .nil) .nil ?_
       refine .off rfl rfl rfl rfl rfl (by rfl) ?_
       refine .off rfl rfl rfl rfl rfl (by rfl) ?_
       refine .v (f_pick_false (by rfl) rfl) rfl (.c rfl (.c rfl .nil)) .nil ?_
       refine .v (f_move (by rfl)) rfl (.c rfl .nil) .nil ?_
       refine .off rfl rfl rfl rfl rfl (by rfl) ?_
       refine .off rfl rfl rfl rfl rfl (by rfl) ?_
       refine .off rfl rfl rfl rfl rfl (by rfl) ?_
       refine .v (f_pick_false (by rfl) rfl) rfl (.c rfl (.c rfl .nil)) .nil ?_
       refine .v (f_assign (by rfl)) rfl (.c rfl .nil) .nil ?_
       refine .nil (by kernel_rfl) ?_
       obtain rfl := Option.some.inj h
       refine aq_weak (s' := ⟨[(0, .d (.val (.bool false)))], [], []⟩) id hb0 (.keep rfl .nil) .nil rfl (by rfl) ?_
       exact jq
     replace h := ite_f hc30 h
     refine .off rfl rfl rfl hc30 rfl (by rfl) ?_
     refine .off rfl rfl rfl hc30 rfl (by rfl) ?_
     refine .v (f_pick_false (by rfl) hc30) rfl (.c rfl (.c rfl .nil)) .nil ?_
     refine .v (f_move (by rfl)) rfl (.c rfl .nil) .nil ?_
     refine .off rfl rfl rfl rfl rfl (by rfl) ?_
     refine .off rfl rfl rfl rfl rfl (by rfl) ?_
     refine .v (f_pick_false (by rfl) rfl) rfl (.c rfl (.c rfl .nil)) .nil ?_
     refine .v (f_move (by rfl)) rfl (.c rfl .nil) .nil ?_
     refine .off rfl rfl rfl rfl rfl (by rfl) ?_
     refine .off rfl rfl rfl rfl rfl (by rfl) ?_
     refine .off rfl rfl rfl rfl rfl (by rfl) ?_
     refine .off rfl rfl rfl rfl rfl (by rfl) ?_
     refine .v (f_pick_false (by rfl) rfl) rfl (.c rfl (.c rfl .nil)) .nil ?_
     refine .v (f_move (by rfl)) rfl (.c rfl .nil) .nil ?_
     refine .off rfl rfl rfl rfl rfl (by rfl) ?_
     refine .off rfl rfl rfl rfl rfl (by rfl) ?_
     refine .v (f_pick_false (by rfl) rfl) rfl (.c rfl (.c rfl .nil)) .nil ?_
     refine .v (f_move (by rfl)) rfl (.c rfl .nil) .nil ?_
     refine .off rfl rfl rfl rfl rfl (by rfl) ?_
     refine .off rfl rfl rfl rfl rfl (by rfl) ?_
     refine .off rfl rfl rfl rfl rfl (by rfl) ?_
     refine .v (f_pick_false (by rfl) rfl) rfl (.c rfl (.c rfl .nil)) .nil ?_
     refine .v (f_move (by rfl)) rfl (.c rfl .nil) .nil ?_
     refine .off rfl rfl rfl rfl rfl (by rfl) ?_
     refine .off rfl rfl rfl rfl rfl (by rfl) ?_
     refine .off rfl rfl rfl rfl rfl (by rfl) ?_
     refine .off rfl rfl rfl rfl rfl (by rfl) ?_
     refine .v (f_pick_false (by rfl) rfl) rfl (.c rfl (.c rfl .nil)) .nil ?_
     refine .v (f_move (by rfl)) rfl (.c rfl .nil) .nil ?_
     refine .off rfl rfl rfl rfl rfl (by rfl) ?_
     refine .off rfl rfl rfl rfl rfl (by rfl) ?_
     refine .v (f_pick_false (by rfl) rfl) rfl (.c rfl (.c rfl .nil)) .nil ?_
     refine .v (f_move (by rfl)) rfl (.c rfl .nil) .nil ?_
     refine .off rfl rfl rfl rfl rfl (by rfl) ?_
     refine .off rfl rfl rfl rfl rfl (by rfl) ?_
     refine .v (f_pick_false (by rfl) rfl) rfl (.c rfl (.c rfl .nil)) .nil ?_
     refine .v (f_move (by rfl)) rfl (.c rfl .nil) .nil ?_
     refine .off rfl rfl rfl rfl rfl (by rfl) ?_
     refine .off rfl rfl rfl rfl rfl (by rfl) ?_
     refine .off rfl rfl rfl rfl rfl (by rfl) ?_
     refine .v (f_pick_false (by rfl) rfl) rfl (.c rfl (.c rfl .nil)) .nil ?_
     refine .v (f_assign (by rfl)) rfl (.c rfl .nil) .nil ?_
     refine .nil (by kernel_rfl) ?_
     obtain rfl := Option.some.inj h
     refine aq_weak (s' := ⟨[(0, .d (.val (.bool false)))], [], []⟩) id hb0 (.keep rfl .nil) .nil rfl (by rfl) ?_
     exact jq
   replace h := ite_f hc29 h
   refine .off rfl rfl rfl hc29 rfl (by rfl) ?_
   refine .off rfl rfl rfl hc29 rfl (by rfl) ?_
   refine .v (f_pick_false (by rfl) hc29) rfl (.c rfl (.c rfl .nil)) .nil ?_
   refine .v (f_move (by rfl)) rfl (.c rfl .nil) .nil ?_
   refine .off rfl rfl rfl rfl rfl (by rfl) ?_
   refine .off rfl rfl rfl rfl rfl (by rfl) ?_
   refine .v (f_pick_false (by rfl) rfl) rfl (.c rfl (.c rfl .nil)) .nil ?_
   refine .v (f_move (by rfl)) rfl (.c rfl .nil) .nil ?_
   refine .off rfl rfl rfl rfl rfl (by rfl) ?_
   refine .off rfl rfl rfl rfl rfl (by rfl) ?_
   refine .v (f_pick_false (by rfl) rfl) rfl (.c rfl (.c rfl .nil)) .nil ?_
   refine .v (f_move (by rfl)) rfl (.c rfl .nil) .nil ?_
   refine .off rfl rfl rfl rfl rfl (by rfl) ?_
   refine .off rfl rfl rfl rfl rfl (by rfl) ?_
   refine .off rfl rfl rfl rfl rfl (by rfl) ?_
   refine .off rfl rfl rfl rfl rfl (by rfl) ?_
   refine .v (f_pick_false (by rfl) rfl) rfl (.c rfl (.c rfl .nil)) .nil ?_
   refine .v (f_move (by rfl)) rfl (.c rfl .nil) .nil ?_
   refine .off rfl rfl rfl rfl rfl (by rfl) ?_
   refine .off rfl rfl rfl rfl rfl (by rfl) ?_
   refine .v (f_pick_false (by rfl) rfl) rfl (.c rfl (.c rfl .nil)) .nil ?_
   refine .v (f_move (by rfl)) rfl (.c rfl .nil) .nil ?_
   refine .off rfl rfl rfl rfl rfl (by rfl) ?_
   refine .off rfl rfl rfl rfl rfl (by rfl) ?_
   refine .off rfl rfl rfl rfl rfl (by rfl) ?_
   refine .v (f_pick_false (by rfl) rfl) rfl (.c rfl (.c rfl .nil)) .nil ?_
   refine .v (f_move (by rfl)) rfl (.c rfl .nil) .nil ?_
   refine .off rfl rfl rfl rfl rfl (by rfl) ?_
   refine .off rfl rfl rfl rfl rfl (by rfl) ?_
   refine .off rfl rfl rfl rfl rfl (by rfl) ?_
   refine .off rfl rfl rfl rfl rfl (by rfl) ?_
   refine .v (f_pick_false (by rfl) rfl) rfl (.c rfl (.c rfl .nil)) .nil ?_
   refine .v (f_move (by rfl)) rfl (.c rfl .nil) .nil ?_
   refine .off rfl rfl rfl rfl rfl (by rfl) ?_
   refine .off rfl rfl rfl rfl rfl (by rfl) ?_
   refine .v (f_pick_false (by rfl) rfl) rfl (.c rfl (.c rfl .nil)) .nil ?_
   refine .v (f_move (by rfl)) rfl (.c rfl .nil) .nil ?_
   refine .off rfl rfl rfl rfl rfl (by rfl) ?_
   refine .off rfl rfl rfl rfl rfl (by rfl) ?_
   refine .v (f_pick_false (by rfl) rfl) rfl (.c rfl (.c rfl .nil)) .nil ?_
   refine .v (f_move (by rfl)) rfl (.c rfl .nil) .nil ?_
   refine .off rfl rfl rfl rfl rfl (by rfl) ?_
   refine .off rfl rfl rfl rfl rfl (by rfl) ?_
   refine .off rfl rfl rfl rfl rfl (by rfl) ?_
   refine .v (f_pick_false (by rfl) rfl) rfl (.c rfl (.c rfl .nil)) .nil ?_
   refine .v (f_assign (by rfl)) rfl (.c rfl .nil) .nil ?_
   refine .nil (by kernel_rfl) ?_
   obtain rfl := Option.some.inj h
   refine aq_weak (s' := ⟨[(0, .d (.val (.bool false)))], [], []⟩) id hb0 (.keep rfl .nil) .nil rfl (by rfl) ?_
   exact jq
 refine aq_then ?_
 refine aw_ret ?_
 obtain rfl := Option.some.inj h
 exact aq_finp hb0 rfl (.tmp rfl (by rfl) .nil) (by rfl) rfl ⟨rfl, rfl⟩
end Go.Proofs.YtonfljoibcnlgaaDoor
