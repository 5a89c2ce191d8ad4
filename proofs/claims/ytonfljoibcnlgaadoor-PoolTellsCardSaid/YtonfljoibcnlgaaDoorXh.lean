/-
  PRINTED by wip/pr3.py: for each Go function a Lean function with the same answers, and the proof.
-/
import Derived.Test.YtonfljoibcnlgaaDoorXa2
namespace Go.Proofs.YtonfljoibcnlgaaDoor
open Bd
set_option maxRecDepth 10000


theorem en123 : enterB Tryd.prog 123 = true := by kernel_rfl
theorem en150 : enterB Tryd.prog 150 = true := by kernel_rfl
theorem ty4 : tyB Tryd.prog 4 = some (false, 1) := by kernel_rfl
theorem zr4 : ∃ zv, zeroB Tryd.prog 4 = some zv ∧ ∀ F μ w, RA F μ w (.d (eB false)) zv.cells.toList := zero_mk' (by kernel_rfl) (by kernel_rfl)

def F76_Clone (n : Nat) (a0 : List GTx) : Option (List GTx) := if a0.length ≤ 1073741824 then some a0 else none
theorem F76_Clone_ok {n : Nat} {a0 r : List GTx} (h : F76_Clone n a0 = some r) :
    ACall Tryd.prog GS 76 [.d (eL24 a0)] [] (fun r' hp' => r' = .slc 0 0 (r).length 99 ∧ hp' = [(0, .av (.d (.arr 99 (r).length ((r).map eGTx))))]) := by
  refine acall_of_body mixed Tryd.func76 rfl (by rfl) ?_
  intro C hro hgl hb0
  unfold F76_Clone at h
  obtain ⟨hb, h⟩ := ifp h
  obtain rfl := Option.some.inj h
  refine aw_rs ?_
  refine .as rfl (by rfl) ?_
  refine .nil (aq_then ?_)
  refine aw_seq ?_
  refine aw_rs ?_
  refine .mv rfl (by rfl) ?_
  refine .eqNil (by rfl) sl24 rfl rfl rfl (fun hnil => ?_) ?_
  · obtain rfl := List.map_eq_nil_iff.1 hnil
    refine .nil (aq_then ?_)
    refine aw_cond rfl (fun _ => ?_) (fun hx => absurd hx (by simp))
    refine aw_rs ?_
    refine .as rfl (by rfl) ?_
    refine .nil (aq_then ?_)
    refine aw_ret ?_
    refine aq_then_ret ?_
    refine aq_adopt 2 0 99 rfl rfl ?_
    refine aq_weak (s' := ⟨[(2, .slc 0 0 ([] : List GTx).length 99)], [(0, .av (.d (.arr 99 ([] : List GTx).length (([] : List GTx).map eGTx))))], []⟩) id hb0 (.keep rfl .nil) (.keep rfl .nil) rfl (by rfl) ?_
    exact aq_fin1 (.tmp rfl (by rfl) .nil) rfl ⟨rfl, rfl⟩
  · refine .nil (aq_then ?_)
    refine aw_cond rfl (fun hx => absurd hx (by simp)) (fun _ => ?_)
    refine aw_skip ?_
    refine aq_then ?_
    refine aw_rs ?_
    refine .n (f_buildS0 1 (by rfl) el24) rfl .nil rfl ?_
    refine .mv rfl (by rfl) ?_
    refine .w (f_appendC (m := a0.length) (ys := (a0 : List GTx).map eGTx) (xs := ([] : List D)) (zs := (a0).map eGTx) 0 (by rfl) el24 (by simp) (by simp) (by simp) (by simp) (Nat.le_trans (Nat.mul_le_mul_right _ hb) (by decide)) (Nat.le_trans hb (by decide)) srcD) rfl (.c rfl (.c rfl .nil)) (.cons rfl .nil) (.cons rfl .nil) ?_
    refine .as rfl (by rfl) ?_
    refine .nil (aq_then ?_)
    refine aw_ret ?_
    refine aq_weak (s' := ⟨[(2, .slc 0 0 (a0).length 99)], [(0, .av (.d (.arr 99 (a0).length ((a0).map eGTx))))], []⟩) id hb0 (.keep rfl .nil) (.keep rfl .nil) rfl (by rfl) ?_
    exact aq_fin1 (.tmp rfl (by rfl) .nil) rfl ⟨rfl, rfl⟩

def F100_Clone (n : Nat) (a0 : List GLine) : Option (List GLine) := if a0.length ≤ 1073741824 then some a0 else none
theorem F100_Clone_ok {n : Nat} {a0 r : List GLine} (h : F100_Clone n a0 = some r) :
    ACall Tryd.prog GS 100 [.d (eL72 a0)] [] (fun r' hp' => r' = .slc 0 0 (r).length 33 ∧ hp' = [(0, .av (.d (.arr 33 (r).length ((r).map eGLine))))]) := by
  refine acall_of_body mixed Tryd.func100 rfl (by rfl) ?_
  intro C hro hgl hb0
  unfold F100_Clone at h
  obtain ⟨hb, h⟩ := ifp h
  obtain rfl := Option.some.inj h
  refine aw_rs ?_
  refine .as rfl (by rfl) ?_
  refine .nil (aq_then ?_)
  refine aw_seq ?_
  refine aw_rs ?_
  refine .mv rfl (by rfl) ?_
  refine .eqNil (by rfl) sl72 rfl rfl rfl (fun hnil => ?_) ?_
  · obtain rfl := List.map_eq_nil_iff.1 hnil
    refine .nil (aq_then ?_)
    refine aw_cond rfl (fun _ => ?_) (fun hx => absurd hx (by simp))
    refine aw_rs ?_
    refine .as rfl (by rfl) ?_
    refine .nil (aq_then ?_)
    refine aw_ret ?_
    refine aq_then_ret ?_
    refine aq_adopt 2 0 33 rfl rfl ?_
    refine aq_weak (s' := ⟨[(2, .slc 0 0 ([] : List GLine).length 33)], [(0, .av (.d (.arr 33 ([] : List GLine).length (([] : List GLine).map eGLine))))], []⟩) id hb0 (.keep rfl .nil) (.keep rfl .nil) rfl (by rfl) ?_
    exact aq_fin1 (.tmp rfl (by rfl) .nil) rfl ⟨rfl, rfl⟩
  · refine .nil (aq_then ?_)
    refine aw_cond rfl (fun hx => absurd hx (by simp)) (fun _ => ?_)
    refine aw_skip ?_
    refine aq_then ?_
    refine aw_rs ?_
    refine .n (f_buildS0 1 (by rfl) el72) rfl .nil rfl ?_
    refine .mv rfl (by rfl) ?_
    refine .w (f_appendC (m := a0.length) (ys := (a0 : List GLine).map eGLine) (xs := ([] : List D)) (zs := (a0).map eGLine) 0 (by rfl) el72 (by simp) (by simp) (by simp) (by simp) (Nat.le_trans (Nat.mul_le_mul_right _ hb) (by decide)) (Nat.le_trans hb (by decide)) srcD) rfl (.c rfl (.c rfl .nil)) (.cons rfl .nil) (.cons rfl .nil) ?_
    refine .as rfl (by rfl) ?_
    refine .nil (aq_then ?_)
    refine aw_ret ?_
    refine aq_weak (s' := ⟨[(2, .slc 0 0 (a0).length 33)], [(0, .av (.d (.arr 33 (a0).length ((a0).map eGLine))))], []⟩) id hb0 (.keep rfl .nil) (.keep rfl .nil) rfl (by rfl) ?_
    exact aq_fin1 (.tmp rfl (by rfl) .nil) rfl ⟨rfl, rfl⟩
def apartF (a0 a1 : List Int) : Nat → Int → Option (Option (Int × Int))
  | 0, _ => none
  | n + 1, i => (if (decide (i < (32 : Int))) = true then ((rd a0 i).bind fun (x : Int) => ((rd a1 i).bind fun (y : Int) =>
      (if ((bXor .u8 x y) != (0 : Int)) = true then some (some (i, bXor .u8 x y)) else apartF a0 a1 n (IntKind.i64.wrap (i + (1 : Int)))))) else some none)


theorem Fap_ok {a0 a1 : List Int} : ACall Tryd.prog [] 123 [.d (eA22 a0), .d (eA22 a1)] [] (fun r' hp' => r' = .fn (.func 150) [] [.ptr 2 0 [], .ptr 3 0 []] ∧ hp' = [(3, .av (.d (eA22 a1))), (2, .av (.d (eA22 a0)))]) := by
  refine acall_of_body mixed Tryd.func123 rfl (by rfl) ?_
  intro C hro hgl hb0
  refine aw_rs ?_
  refine .n (f_box 2 (by rfl) (by rfl)) rfl (.c rfl .nil) rfl ?_
  refine .n (f_box 3 (by rfl) (by rfl)) rfl (.c rfl .nil) rfl ?_
  refine .v (f_assign (by rfl)) rfl (.c rfl .nil) .nil ?_
  refine .nil (aq_then ?_)
  refine aw_rs ?_
  refine .v (f_makeFunc (xs := []) (ys := [.ptr 2 0 [], .ptr 3 0 []]) (by rfl) rfl rfl (by rfl) (by rfl)) rfl (.c rfl (.c rfl .nil)) .nil ?_
  refine .v (f_assign (by rfl)) rfl (.c rfl .nil) .nil ?_
  refine .nil (aq_then ?_)
  refine aw_ret ?_
  exact aq_fin1 (.tmp rfl (by rfl) .nil) rfl ⟨rfl, rfl⟩

/-- The walk of what yields: at the first byte that differs the reader's body runs, and it leaves. -/
theorem apart_walk {n : Nat} {a0 a1 : List Int} {res : Option (Int × Int)} (h : apartF a0 a1 n 0 = some res) : ∃ c1, Tryd.f150.body = some c1 ∧
    ∀ (C1 : Ctx Tryd.prog Tryd.f150.ntmps) (r : Loop) (E : Exit → Act → World → Prop) (hp : Heap) (A B L ns2 : Nat) (envo : Env), r.state = .ready → hp.get A = some (.av (.d (eA22 a0))) → hp.get B = some (.av (.d (eA22 a1))) → hp.get L = some (.raw (.loop r)) →
      r.params.toList.length = 2 → (r.params.toList.all (Nat.blt · ns2)) = true → Pin C1 ns2 envo r.tmps →
      (res = none → ∀ env, AQ C1 E .normal ⟨env, hp, []⟩) →
      (∀ i x, res = some (i, x) → ∀ (C2 : Ctx Tryd.prog ns2) (Y A' : Exit → Act → World → Prop), (∃ l, C2.round = some l) → C2.globs = C1.globs → (∀ o, hp.get o = none → C2.base o = none) →
        (∀ s2, s2.dfs = [] → s2.hp.get L = some (.raw (.loop { r with state := .busy })) →
          (∀ env, AQ C1 E .normal ⟨env, (L, .raw (.loop { r with state := .done, pending := some .ret })) :: s2.hp, []⟩) → AQ C2 Y .ret s2) →
        (∀ s2, s2.hp.get L = some (.raw (.loop r)) → AW C2 r.body Y ⟨s2.env, (L, .raw (.loop { r with state := .busy })) :: s2.hp, s2.dfs⟩ → AQ C2 A' .normal s2) →
        AW C2 r.assign A' ⟨paramEnv r.params.toList [.d (.val (.int .i64 i)), .d (.val (.int .u8 x))] envo, hp, []⟩) →
      AW C1 c1 E ⟨argEnv (.yld L :: [.ptr A 0 [], .ptr B 0 []]) 0, hp, []⟩ := by
  refine ⟨_, rfl, ?_⟩
  intro C r E hp A B L ns2 envo hst hA hB hL hps hlt2 hpin hnone hsome
  refine aw_scope ?_
  refine aw_seq ?_
  refine aw_label ?_
  refine aq_then ?_
  refine aw_rs ?_
  refine .v (f_move (by rfl)) rfl (.c rfl .nil) .nil ?_
  refine .nil (aq_then ?_)
  refine aw_block ?_
  refine aw_sube [(0, .yld L), (1, .ptr A 0 []), (2, .ptr B 0 []), (6, .d (.val (.int .i64 0)))] (.keep rfl (.keep rfl (.keep rfl (.keep rfl .nil)))) ?_
  refine aw_loop (σ := Nat × Int) (fun z => ⟨[(0, .yld L), (1, .ptr A 0 []), (2, .ptr B 0 []), (6, .d (.val (.int .i64 z.2)))], hp, []⟩) (fun z => apartF a0 a1 z.1 z.2 = some res) (fun z => z.1) (n, (0 : Int)) h ?_
  clear h
  rintro ⟨n_, i⟩ h
  obtain _ | n_ := n_
  · simp only [apartF] at h; cases h
  · simp only [apartF] at h
    show AW C _ _ ⟨[(0, .yld L), (1, .ptr A 0 []), (2, .ptr B 0 []), (6, .d (.val (.int .i64 i)))], hp, []⟩
    refine aw_rs ?_
    refine .v (f_binI (by rfl) rfl (by rfl)) rfl (.c rfl (.c rfl .nil)) .nil ?_
    refine .nil (aq_then ?_)
    refine aw_seq ?_
    refine aw_cond rfl (fun hc1 => ?_) (fun hc1 => ?_)
    · replace h := ite_t hc1 h
      refine aw_skip ?_
      refine aq_then ?_
      refine aw_seq ?_
      refine aw_block ?_
      refine aw_rs ?_
      refine .v (f_move (by rfl)) rfl (.c rfl .nil) .nil ?_
      refine .v (f_assign (by rfl)) rfl (.c rfl .nil) .nil ?_
      refine .nil (aq_then ?_)
      refine aw_rds ?_
      obtain ⟨x, hx, h⟩ := bind_some h
      obtain ⟨y, hy, h⟩ := bind_some h
      obtain ⟨hi, hx⟩ := rd_some hx
      obtain ⟨_, hy⟩ := rd_some hy
      refine .v (f_move (by rfl)) rfl (.c rfl .nil) .nil ?_
      refine .v (f_indexO (by rfl) ar23 (o := A) (off := 0) (p := []) (c := .d (eA22 a0)) rfl hi (rd_map _ hx)) rfl (.c rfl (.c rfl .nil)) (.cons hA .nil) ?_
      refine .v (f_load (n := 0) (o := A) (off := (0 + i.toNat * 1)) (p := [i.toNat]) (c := .d (eA22 a0)) (z := .d (.val (.int .u8 x))) (by rfl) (at_map _ hx (by simp)) ty5 (by rfl)) rfl (.c rfl .nil) (.cons hA .nil) ?_
      refine .v (f_move (by rfl)) rfl (.c rfl .nil) .nil ?_
      refine .v (f_indexO (by rfl) ar23 (o := B) (off := 0) (p := []) (c := .d (eA22 a1)) rfl hi (rd_map _ hy)) rfl (.c rfl (.c rfl .nil)) (.cons hB .nil) ?_
      refine .v (f_load (n := 0) (o := B) (off := (0 + i.toNat * 1)) (p := [i.toNat]) (c := .d (eA22 a1)) (z := .d (.val (.int .u8 y))) (by rfl) (at_map _ hy (by simp)) ty5 (by rfl)) rfl (.c rfl .nil) (.cons hB .nil) ?_
      refine .v (f_binI (r := .int .u8 (bXor .u8 x y)) (by rfl) rfl (by rfl)) rfl (.c rfl (.c rfl .nil)) .nil ?_
      refine .v (f_assign (by rfl)) rfl (.c rfl .nil) .nil ?_
      refine .nil (by kernel_rfl) ?_
      refine aw_rs ?_
      refine .v (f_move (by rfl)) rfl (.c rfl .nil) .nil ?_
      refine .v (f_binI (by rfl) rfl (by rfl)) rfl (.c rfl (.c rfl .nil)) .nil ?_
      refine .v (f_move (by rfl)) rfl (.c rfl .nil) .nil ?_
      rcases Bool.eq_false_or_eq_true ((bXor .u8 x y) != (0 : Int)) with hc2 | hc2
      · replace h := ite_t hc2 h
        obtain rfl := Option.some.inj h
        refine .gv (f_move (by rfl)) rfl rfl rfl hc2 (.c rfl .nil) .nil ?_
        refine .gv (f_move (by rfl)) rfl rfl rfl hc2 (.c rfl .nil) .nil ?_
        refine .gv (f_move (by rfl)) rfl rfl rfl hc2 (.c rfl .nil) .nil ?_
        refine R.yield (L := L) (r := r) (ns2 := ns2) (envo := envo) (xs := [.d (.val (.int .i64 i)), .d (.val (.int .u8 (bXor .u8 x y)))]) (wanted_on rfl rfl rfl hc2) (by rfl) rfl hL hst (by rw [hps]; rfl) rfl (by rfl) (.c rfl (.c rfl .nil)) hpin hlt2 ?_
        intro C2 Y A' h1 h2 h3 h4 h5 h6
        refine hsome _ _ rfl C2 Y A' h1 h2 h3 (fun s2 k1 k2 k3 => h5 _ _ s2 rfl k1 k2 ?_) h6
        refine .gv (f_not (by rfl)) rfl rfl rfl hc2 (.c rfl .nil) .nil ?_
        refine .v (f_pick_true (by rfl) hc2) rfl (.c rfl (.c rfl .nil)) .nil ?_
        refine .nil (aq_then ?_)
        refine aw_cond rfl (fun _ => ?_) (fun hx => absurd hx (by simp))
        refine aw_exit ?_
        refine aq_block_exit_ne rfl ?_
        refine aq_then_exit ?_
        refine aq_then_exit ?_
        refine aq_block_exit ?_
        refine aq_scope (by intro l; simp) ?_
        exact k3 _
      · replace h := ite_f hc2 h
        refine .off rfl rfl rfl hc2 rfl (by rfl) ?_
        refine .off rfl rfl rfl hc2 rfl (by rfl) ?_
        refine .off rfl rfl rfl hc2 rfl (by rfl) ?_
        refine .off rfl rfl rfl hc2 rfl (by rfl) ?_
        refine .off rfl rfl rfl hc2 rfl (by rfl) ?_
        refine .v (f_pick_false (by rfl) hc2) rfl (.c rfl (.c rfl .nil)) .nil ?_
        refine .nil (aq_then ?_)
        refine aw_cond rfl (fun hx => absurd hx (by simp)) (fun _ => ?_)
        refine aw_skip ?_
        refine aq_block ?_
        refine aq_then ?_
        refine aw_r ?_
        refine .v (f_binI (by rfl) rfl (by rfl)) rfl (.c rfl (.c rfl .nil)) .nil ?_
        refine .v (f_move (by rfl)) rfl (.c rfl .nil) .nil ?_
        refine .nil ?_
        refine aq_sube [(0, .yld L), (1, .ptr A 0 []), (2, .ptr B 0 []), (6, .d (.val (.int .i64 (IntKind.i64.wrap (i + 1)))))] (.keep rfl (.keep rfl (.keep rfl (.keep rfl .nil)))) ?_
        exact aq_loop (n_, IntKind.i64.wrap (i + 1)) h (Nat.lt_succ_self _)
    · replace h := ite_f hc1 h
      obtain rfl := Option.some.inj h
      refine aw_exit ?_
      refine aq_then_exit ?_
      refine aq_then_exit ?_
      refine aq_block_exit ?_
      refine aq_scope (by intro l; simp) ?_
      exact hnone rfl _


def F96_path_Ahead (n : Nat) (a0 a1 : List Int) : Option Bool :=
  (apartF a0 a1 n 0).bind fun (q : Option (Int × Int)) => match q with
    | none => some false
    | some (i, x) => (rd a0 i).bind fun (y : Int) => (rd a1 i).bind fun (z : Int) => some (decide (y < z))
theorem F96_path_Ahead_ok {n : Nat} {a0 a1 : List Int} {r : Bool} (h : F96_path_Ahead n a0 a1 = some r) :
    ACall Tryd.prog GS 96 [.d (eA22 a0), .d (eA22 a1)] [] (fun r' hp' => r' = .d (.val (.bool r)) ∧ hp' = []) := by
  refine acall_of_body mixed Tryd.func96 rfl (by rfl) ?_
  intro C hro hgl hb0
  unfold F96_path_Ahead at h
  obtain ⟨q, hq, h⟩ := bind_some h
  refine aw_rs ?_
  refine .n (f_box 2 (by rfl) (by rfl)) rfl (.c rfl .nil) rfl ?_
  refine .n (f_box 3 (by rfl) (by rfl)) rfl (.c rfl .nil) rfl ?_
  refine .n (f_alloc 4 (by rfl) zr4) rfl .nil rfl ?_
  refine .nil (aq_then ?_)
  refine aw_seq ?_
  refine aw_rs ?_
  refine .v (f_load (n := 0) (o := 2) (off := 0) (p := []) (c := .d (eA22 a0)) (z := .d (eA22 a0)) (by rfl) rfl ty23 (by rfl)) rfl (.c rfl .nil) (.cons rfl .nil) ?_
  refine .v (f_load (n := 0) (o := 3) (off := 0) (p := []) (c := .d (eA22 a1)) (z := .d (eA22 a1)) (by rfl) rfl ty23 (by rfl)) rfl (.c rfl .nil) (.cons rfl .nil) ?_
  refine .w (f_call (hn := [103, 102]) (hw := [(103, .av (.d (eA22 a1))), (102, .av (.d (eA22 a0)))]) (r := .fn (.func 150) [] [.ptr 102 0 [], .ptr 103 0 []]) (by rfl) en123 rfl (by rfl) (acallF_closed 100 (by rfl) (acall_globs Fap_ok))) rfl (.c rfl (.c rfl .nil)) .nil (.cons rfl (.cons rfl .nil)) ?_
  refine .nil (aq_then ?_)
  refine aw_block ?_
  obtain ⟨c1, hc1, hwk⟩ := apart_walk hq
  refine aw_range 200 201 hro rfl Tryd.func150 hc1 rfl en150 rfl rfl rfl (by rfl) ?_
  intro C1 lp E hro1 hgl1 hb1 hst hpd hps has hbd hpin hend
  refine hwk C1 lp E _ 102 103 201 _ _ hst rfl rfl rfl (by rw [hps]; rfl) (by rw [hps]; rfl) hpin ?_ ?_
  · intro hn env
    subst hn
    obtain rfl := Option.some.inj h
    refine hend .normal _ lp.state lp.pending (.inr rfl) rfl rfl (by rw [hst]; simp) ?_
    rw [hpd]
    refine aq_block ?_
    refine aq_then ?_
    refine aw_rs ?_
    refine .s (f_store (n := 0) (o := 4) (off := 0) (p := []) (c := .d (.val (.bool false))) (old := .d (.val (.bool false))) (z := .d (.val (.bool false))) (c' := .d (.val (.bool false))) rfl rfl (by rfl) ty4 (by rfl)) rfl (.c rfl (.c rfl .nil)) (.cons rfl .nil) ?_
    refine .nil (aq_then ?_)
    refine aw_ret ?_
    refine aq_marks (.inl rfl) ⟨rfl, trivial⟩ ?_
    exact aq_finp hb0 rfl (.cell rfl rfl ty4 (by rfl) .nil) (by rfl) rfl ⟨rfl, rfl⟩
  · intro i x hix C2 Y A' h1 h2 h3 hret hbegin
    subst hix
    refine aw_code has ?_
    rw [hps]
    refine aw_r ?_
    refine .v (f_assign (by rfl)) rfl (.c rfl .nil) .nil ?_
    refine .nil (hbegin _ rfl ?_)
    refine aw_code hbd ?_
    refine aw_block ?_
    refine aw_seq ?_
    obtain ⟨y, hy, h⟩ := bind_some h
    obtain ⟨z, hz, h⟩ := bind_some h
    obtain ⟨hi, hy⟩ := rd_some hy
    obtain ⟨_, hz⟩ := rd_some hz
    obtain rfl := Option.some.inj h
    refine aw_rd ?_
    refine .v (f_move (by rfl)) rfl (.c rfl .nil) .nil ?_
    refine .v (f_indexO (by rfl) ar23 (o := 2) (off := 0) (p := []) (c := .d (eA22 a0)) rfl hi (rd_map _ hy)) rfl (.c rfl (.c rfl .nil)) (.cons rfl .nil) ?_
    refine .v (f_load (n := 0) (o := 2) (off := (0 + i.toNat * 1)) (p := [i.toNat]) (c := .d (eA22 a0)) (z := .d (.val (.int .u8 y))) (by rfl) (at_map _ hy (by simp)) ty5 (by rfl)) rfl (.c rfl .nil) (.cons rfl .nil) ?_
    refine .v (f_move (by rfl)) rfl (.c rfl .nil) .nil ?_
    refine .v (f_indexO (by rfl) ar23 (o := 3) (off := 0) (p := []) (c := .d (eA22 a1)) rfl hi (rd_map _ hz)) rfl (.c rfl (.c rfl .nil)) (.cons rfl .nil) ?_
    refine .v (f_load (n := 0) (o := 3) (off := (0 + i.toNat * 1)) (p := [i.toNat]) (c := .d (eA22 a1)) (z := .d (.val (.int .u8 z))) (by rfl) (at_map _ hz (by simp)) ty5 (by rfl)) rfl (.c rfl .nil) (.cons rfl .nil) ?_
    refine .v (f_binI (r := .bool (decide (y < z))) (by rfl) rfl (by rfl)) rfl (.c rfl (.c rfl .nil)) .nil ?_
    refine .s (f_store (n := 0) (o := 4) (off := 0) (p := []) (c := .d (.val (.bool false))) (old := .d (.val (.bool false))) (z := .d (.val (.bool (decide (y < z))))) (c' := .d (.val (.bool (decide (y < z))))) rfl rfl (by rfl) ty4 (by rfl)) rfl (.c rfl (.c rfl .nil)) (.cons rfl .nil) ?_
    refine .nil (by kernel_rfl) ?_
    refine aq_then ?_
    refine aw_ret ?_
    refine aq_block_ret ?_
    refine hret _ rfl rfl ?_
    intro env
    refine hend .normal _ .done (some .ret) (.inr rfl) rfl rfl (by simp) ?_
    show AW C .ret _ _
    refine aw_ret ?_
    refine aq_block_ret ?_
    refine aq_then_ret ?_
    refine aq_marks (.inl rfl) ⟨rfl, trivial⟩ ?_
    exact aq_finp hb0 rfl (.cell rfl rfl ty4 (by rfl) .nil) (by rfl) rfl ⟨rfl, rfl⟩

end Go.Proofs.YtonfljoibcnlgaaDoor
