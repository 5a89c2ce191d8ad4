import Derived.Test.YtonfljoibcnlgaaGreatDoorBk
namespace Bd
open Go
def jumpOf : Exit → Option (Option Code)
  | .normal => some none
  | .ret => some (some .ret)
  | .exit id => some (some (.exit id))
  | .goto l => some (some (.goto l))
  | _ => none
def paramEnv : List Nat → List AV → Env → Env
  | t :: ts, x :: xs, e => paramEnv ts xs ((t, x) :: e)
  | _, _, e => e
theorem params_ok {F μ w} {n : Nat} : ∀ {ts : List Nat} {xs : List AV} {vs : List Value} {env : Env} {t : Array Value}, ts.length = xs.length → EnvOk F μ w env t → t.size = n → (ts.all (Nat.blt · n)) = true → RAc F μ w xs vs →
    EnvOk F μ w (paramEnv ts xs env) ((ts.zip vs).foldl (fun tmps p => tmps.setIfInBounds p.1 p.2) t) ∧ ((ts.zip vs).foldl (fun tmps p => tmps.setIfInBounds p.1 p.2) t).size = n
  | [], [], vs, env, t, _, he, hn, _, hr => by simp only [RAc] at hr; subst hr; exact ⟨he, hn⟩
  | i :: ts, x :: xs, vs, env, t, hl, he, hn, ha, hr => by
    simp only [RAc] at hr
    obtain ⟨v, vs', rfl, h1, h2, h3⟩ := hr
    simp only [List.all_cons, Bool.and_eq_true] at ha
    have hv : RV F μ w x v := by
      cases x with
      | res xs => simp only [RA] at h1
      | junk => simp only [RA] at h1
      | _ => exact ⟨h1, h2⟩
    simp only [List.zip_cons_cons, List.foldl_cons, paramEnv]
    exact params_ok (by simpa using hl) (envOk_put he (by rw [hn]; simpa [Nat.blt_eq] using ha.1) hv) (by simpa using hn) ha.2 h3
  | [], _ :: _, _, _, _, hl, _, _, _, _ => by simp at hl
  | _ :: _, [], _, _, _, hl, _, _, _, _ => by simp at hl
section
variable {P₀ : Program} {ns : Nat} {C : Ctx P₀ ns} {ops : Array Oper} {Q : Exit → Act → World → Prop} {d ty : Nat} {ps : String} {af : Array Edge} {gd : Option (Nat × Bool)} {os : List Oper} {e : Env} {h : Heap} {ds : List Nat}
theorem R.yield {t L ns2 : Nat} {r : Loop} {as : Array Operand} {ats : Array TypeId} {xs : List AV} {envo : Env} (hw : ∀ a w, Sat C ⟨e, h, ds⟩ a w → Region.wanted ⟨some d, .call ⟨.value (.tmp t), as, ats⟩, ty, ps, af, gd⟩ (yielded ops a.tmps) = true)
    (hlt : Nat.blt d C.n = true) (hy : e.get t = some (.yld L)) (hl : h.get L = some (.raw (.loop r))) (hrdy : r.state = .ready) (hps : as.toList.length = r.params.toList.length)
    (hxl : as.toList.length = xs.length) (hxm : xs.all AV.mem = true) (hx : EnvHas C e (as.toList.zip xs)) (hpin : Pin C ns2 envo r.tmps) (hlt2 : (r.params.toList.all (Nat.blt · ns2)) = true)
    (H : ∀ (C2 : Ctx P₀ ns2) (Y A : Exit → Act → World → Prop), (∃ l, C2.round = some l) → C2.globs = C.globs → (∀ o, h.get o = none → C2.base o = none) → (∀ n' env t, Pin C n' env t → Pin C2 n' env t) →
      (∀ ex jump s2, jumpOf ex = some jump → s2.dfs = [] → s2.hp.get L = some (.raw (.loop { r with state := .busy })) →
        R C ops os ⟨(d, .d (.val (.bool jump.isNone))) :: e, (L, .raw (.loop { r with state := if jump.isNone then .ready else .done, pending := jump })) :: s2.hp, ds⟩ Q → AQ C2 Y ex s2) →
      (∀ s2, s2.hp.get L = some (.raw (.loop r)) → AW C2 r.body Y ⟨s2.env, (L, .raw (.loop { r with state := .busy })) :: s2.hp, s2.dfs⟩ → AQ C2 A .normal s2) →
      AW C2 r.assign A ⟨paramEnv r.params.toList xs envo, h, []⟩) :
    R C ops (⟨some d, .call ⟨.value (.tmp t), as, ats⟩, ty, ps, af, gd⟩ :: os) ⟨e, h, ds⟩ Q := by
  refine R.cons fun a w nx hs k => ?_
  have hwant := hw a w hs
  rw [if_pos hwant]
  obtain ⟨F, μ, hs⟩ := hs
  have hyv := hs.env t _ hy
  obtain ⟨hy1, hy2⟩ := hyv
  simp only [RA] at hy1
  obtain ⟨b, base, tot, hm, hc⟩ := hy1
  have hv : a.tmps.getD t undef = .func (.yield b) #[] #[] := by
    have := cells_single (v := a.tmps.getD t undef) hy2
    rw [hc] at this; simpa using this.symm
  obtain ⟨b', base', tot', k1, k2, k3, k4⟩ := hs.inv.obj L _ hl
  rw [hm] at k1; cases k1
  have hargs := rac_evals hs hxl hx hxm
  have hFlt : ∀ b, F b → b < w.heap.size := fun b hb => by obtain ⟨c, hc⟩ := hs.inv.fro b hb; exact blk_lt hc
  refine ⟨fun f _ => C.fence_fn f, ?_⟩
  rw [Oper.semAt_eq _ _ _ (by intro c h; cases h)]
  have hrun : (execOp a.eval ⟨some d, .call ⟨.value (.tmp t), as, ats⟩, ty, ps, af, gd⟩).run C.P w =
      .ok (.round b r.fn ((r.params.zip (as.map a.eval)).foldl (fun tmps (t, a) => tmps.setIfInBounds t a) r.tmps) r.assign r.body) w := by
    have hyl := run_yield (P := C.P) (args := as.map a.eval) k4 (by simpa using hps)
    have hev : a.eval (.tmp t) = .func (.yield b) #[] #[] := hv
    simp only [execOp, resolve, hev, Deferred.ofValue, Sem.run_bind, Sem.run_pure, Result.andThen_ok, invoke, Array.empty_append]
    exact hyl
  rw [hrun, Oper.uponIn_round]
  refine ⟨(fun h => by rw [C.fence_depth] at h; cases h), roundIn_of_wpIn (C.fence_fn _) ?_⟩
  rw [fence_inRound]
  let C2 : Ctx P₀ ns2 := { w0 := w, F0 := F, base := μ, may := fun b => C.may b ∧ ¬ F b, round := some b, globs := C.globs,
                           new := fun b hb => ⟨C.new b (Nat.le_trans hs.fr.size hb), fun hF => by have := hFlt b hF; omega⟩, apart := fun b hb h => h.2 hb, mixed := C.mixed }
  have hext : Ext C.F0 C.base C.w0 F μ w := ⟨hs.f0, hs.ext, hs.base⟩
  have hfold : (r.params.zip (as.map a.eval)).foldl (fun tmps (t, a) => tmps.setIfInBounds t a) r.tmps = (r.params.toList.zip (as.toList.map a.eval)).foldl (fun tmps p => tmps.setIfInBounds p.1 p.2) r.tmps := by
    rw [← Array.foldl_toList]; simp
  have hpk := params_ok (ts := r.params.toList) (xs := xs) (vs := as.toList.map a.eval) (env := envo) (t := r.tmps) (n := ns2) (by rw [← hps, hxl]) (envOk_mono hext hpin.env) hpin.size hlt2 hargs
  have hstart : Sat C2 ⟨paramEnv r.params.toList xs envo, h, []⟩ { tmps := (r.params.zip (as.map a.eval)).foldl (fun tmps (t, a) => tmps.setIfInBounds t a) r.tmps, defers := [] } w := by
    rw [hfold]
    exact ⟨F, μ, inv_may hs.inv fun b h1 h2 => ⟨h1, h2⟩, hpk.1, hpk.2, rfl, Fr.refl _ _, fun _ h => h, fun _ _ h => h, hs.globs, fun _ h => .inl h⟩
  have hY : ∀ ex jump s2, jumpOf ex = some jump → s2.dfs = [] → s2.hp.get L = some (.raw (.loop { r with state := .busy })) →
      R C ops os ⟨(d, .d (.val (.bool jump.isNone))) :: e, (L, .raw (.loop { r with state := if jump.isNone then .ready else .done, pending := jump })) :: s2.hp, ds⟩ Q →
      AQ C2 (roundPost P₀ b fun
        | .returned v, w'' => nx (a.put (some d) v) w''
        | .panicked chain, w'' => Q (.panic chain) a w''
        | .outgrown, _ => LetsOut Q) ex s2 := by
    intro ex jump s2 hj hd hl2 hR a2 w2 hs2
    obtain ⟨F2, μ2, hs2⟩ := hs2
    have hmL : μ2 L = some (.at b base tot) := hs2.base L _ hm
    obtain ⟨b', ba, tt, q1, q2, q3, q4⟩ := hs2.inv.obj L _ hl2
    rw [hmL] at q1; cases q1
    obtain ⟨i1, x1, f1⟩ := inv_putObj (ob' := .loop { r with state := if jump.isNone then .ready else .done, pending := jump }) hs2.inv hl2 hmL (.inl rfl)
    have hxx : Ext F μ w F2 μ2 (w2.putObj b (.loop { r with state := if jump.isNone then .ready else .done, pending := jump })) := (⟨hs2.f0, hs2.ext, hs2.base⟩ : Ext F μ w F2 μ2 w2).trans x1
    have hsat : Sat C ⟨(d, .d (.val (.bool jump.isNone))) :: e, (L, .raw (.loop { r with state := if jump.isNone then .ready else .done, pending := jump })) :: s2.hp, ds⟩ (a.put (some d) (.bool jump.isNone))
        (w2.putObj b (.loop { r with state := if jump.isNone then .ready else .done, pending := jump })) := by
      have hsx : SatW C ⟨e, (L, .raw (.loop { r with state := if jump.isNone then .ready else .done, pending := jump })) :: s2.hp, ds⟩ a (w2.putObj b (.loop { r with state := if jump.isNone then .ready else .done, pending := jump })) F2 μ2 :=
        ⟨inv_may i1 fun b h1 _ => h1.1, envOk_mono hxx hs.env, hs.size, dfsOk_mono hxx.mu hs.dfs, (hs.fr.trans (hs2.fr.weak fun b h => h.1)).trans (f1 _ q3.1), fun b hb => hs2.f0 b (hs.f0 b hb), fun o p hp => hxx.mu o p (hs.base o p hp),
          globs_mono hxx.fro hxx.kept hs.globs, fun b hb => by
            rcases hs2.fm b hb with h | h
            · exact hs.fm b h
            · exact .inr h.1⟩
      exact ⟨F2, μ2, sat_put hsx (by simpa [Nat.blt_eq] using hlt) (rv_val_mk rfl)⟩
    have hend : ∃ v w', (Instr.endRound b jump).run P₀ w2 = .ok v w' ∧ nx (a.put (some d) v) w' := by
      have he := run_endRound (P := P₀) jump q4
      simp only [] at he
      exact ⟨_, _, he, k _ _ _ hsat hR⟩
    cases ex with
    | normal => simp only [jumpOf, Option.some.injEq] at hj; subst hj; exact hend
    | ret => simp only [jumpOf, Option.some.injEq] at hj; subst hj; exact hend
    | exit id => simp only [jumpOf, Option.some.injEq] at hj; subst hj; exact hend
    | goto l => simp only [jumpOf, Option.some.injEq] at hj; subst hj; exact hend
    | panic c => simp [jumpOf] at hj
    | outgrown => simp [jumpOf] at hj
  refine H C2 (roundPost P₀ b fun
        | .returned v, w'' => nx (a.put (some d) v) w''
        | .panicked chain, w'' => Q (.panic chain) a w''
        | .outgrown, _ => LetsOut Q) _ ⟨b, rfl⟩ rfl hs.inv.dom (fun n' env t hp => ⟨envOk_mono hext hp.env, hp.size⟩) hY ?_ _ _ hstart
  intro s2 hl2 hbody a2 w2 hs2
  obtain ⟨F2, μ2, hs2⟩ := hs2
  have hmL : μ2 L = some (.at b base tot) := hs2.base L _ hm
  obtain ⟨b', ba, tt, q1, q2, q3, q4⟩ := hs2.inv.obj L _ hl2
  rw [hmL] at q1; cases q1
  obtain ⟨i1, x1, f1⟩ := inv_putObj (ob' := .loop { r with state := .busy }) hs2.inv hl2 hmL (.inl rfl)
  refine ⟨_, run_beginRound q4 hrdy, hbody _ _ ⟨F2, μ2, i1, envOk_mono x1 hs2.env, hs2.size, hs2.dfs, hs2.fr.trans (f1 _ q3), hs2.f0, hs2.base, globs_mono x1.fro x1.kept hs2.globs, hs2.fm⟩⟩
theorem wanted_plain {o : Oper} {s : AS} (hg : o.guard = none) : ∀ a w, Sat C s a w → Region.wanted o (yielded ops a.tmps) = true := fun _ _ _ => by simp [Region.wanted, hg]
theorem wanted_on {o : Oper} {s : AS} {j g : Nat} {b want : Bool} (hg : o.guard = some (j, want)) (hj : ((ops[j]?).bind (·.dst)) = some g) (he : evalA C s.env (.tmp g) = some (.d (.val (.bool b)))) (hb : b = want) :
    ∀ a w, Sat C s a w → Region.wanted o (yielded ops a.tmps) = true := fun _ _ hs => by simp [Region.wanted, hg, yielded_ok hs hj ⟨_, he, .refl _⟩, hb]
theorem aw_scope {c : Code} {s : AS} (h : AW C c (fun e a w => match e with | .goto _ => False | e => Q e a w) s) : AW C (.scope c) Q s := by
  intro a w hs b k cs hro hb hr
  have h0 : (lone (b.atR a (.code (.scope c) :: k)) cs w).fenced C.P C.fence := fenced_calm hb hr rfl
  have hstep : step C.P (lone (b.atR a (.code (.scope c) :: k)) cs w) = .next (lone (b.atR a (.code c :: .inScope c :: k)) cs w) := step_lone_go (by simp [stepG, stepG.exec, Frame.atR])
  obtain ⟨e, a₁, w₁, hq, harr⟩ := h a w hs b (.inScope c :: k) cs hro hb hr
  have hback : ∀ a' w', step C.P (lone (b.atR a' (.inScope c :: k)) cs w') = .next (lone (b.atR a' k) cs w') := fun a' w' => step_lone_go (by simp [stepG, stepG.exec, Frame.atR])
  cases e with
  | normal => exact ⟨.normal, a₁, w₁, hq, .head h0 hstep (StepsIn.trans harr (.one (fenced_calm hb hr rfl) (hback a₁ w₁)))⟩
  | exit id => exact ⟨.exit id, a₁, w₁, hq, fun k' hk => .head h0 hstep (harr.1 k' (by simp [exitTo, hk])),
      fun hr' hk => let ⟨k₁, h1, h2⟩ := harr.2 hr' (by simp [exitTo, hk]); ⟨k₁, h1, .head h0 hstep h2⟩⟩
  | goto l => exact hq.elim
  | ret => exact ⟨_, a₁, w₁, hq, .of_steps (.one h0 hstep) harr⟩
  | panic ch => exact ⟨_, a₁, w₁, hq, .of_steps (.one h0 hstep) harr⟩
  | outgrown => exact ⟨_, a₁, w₁, hq, .of_steps (b := b) (k := k) (cs := cs) (e := .outgrown) (.one h0 hstep) harr⟩
theorem aq_scope {s : AS} {ex : Exit} (hx : ∀ l, ex ≠ .goto l) (h : AQ C Q ex s) : AQ C (fun e a w => match e with | .goto _ => False | e => Q e a w) ex s := fun a w hs => by
  have := h a w hs
  cases ex <;> first | exact this | exact absurd rfl (hx _)
end
def marksDead (hp : Heap) : List Nat → Heap
  | [] => hp
  | o :: os => marksDead ((o, .dead) :: hp) os
def marksOk : Heap → List Nat → Prop
  | _, [] => True
  | hp, o :: os => hp.get o = some (.raw (.deferred (some []))) ∧ marksOk ((o, .dead) :: hp) os
theorem leaves_marks {P₀ : Program} {ns : Nat} {C : Ctx P₀ ns} {fn : Func} {R : Ending → World → Prop} {tmps : Array Value} {env : Env} : ∀ (ds : List Nat) (hp : Heap) (l : List Deferred) (w : World) (F : Nat → Prop) (μ : Mu),
    SatW C ⟨env, hp, []⟩ { tmps := tmps, defers := [] } w F μ → DfsOk μ ds l → marksOk hp ds →
    (∀ w', SatW C ⟨env, marksDead hp ds, []⟩ { tmps := tmps, defers := [] } w' F μ → LeavesInM Fence.wide 0 C.P fn tmps R [] .returning w') → LeavesInM Fence.wide 0 C.P fn tmps R l .returning w
  | [], hp, l, w, F, μ, hs, hd, _, k => by simp only [DfsOk] at hd; subst hd; exact k w hs
  | o :: os, hp, l, w, F, μ, hs, hd, hm, k => by
    obtain ⟨b, base, tot, l', h1, rfl, h2⟩ := hd
    obtain ⟨m1, m2⟩ := hm
    obtain ⟨b', base', tot', k1, k2, k3, k4⟩ := hs.inv.obj o _ m1
    rw [h1] at k1; cases k1
    obtain ⟨i1, x1, f1⟩ := inv_putObj (ob' := .deferred none) hs.inv m1 h1 (.inr rfl)
    refine ⟨by simp, .inl ⟨b, _, rfl, run_takeDeferred k4, ?_⟩⟩
    exact leaves_marks os ((o, .dead) :: hp) l' _ F μ ⟨i1, envOk_mono x1 hs.env, hs.size, hs.dfs, hs.fr.trans (f1 _ k3), hs.f0, hs.base, globs_mono x1.fro x1.kept hs.globs, hs.fm⟩ h2 m2 k
theorem aq_marks {P₀ : Program} {ns : Nat} {C : Ctx P₀ ns} {s : AS} {fn : Func} {K : AV → Heap → Prop} {ex : Exit} (hx : ex = .ret ∨ ex = .normal) (hm : marksOk s.hp s.dfs) (h : AQ C (Fin C fn K) ex ⟨s.env, marksDead s.hp s.dfs, []⟩) : AQ C (Fin C fn K) ex s := by
  intro a w hs
  obtain ⟨F, μ, hs⟩ := hs
  have key : LeavesInM Fence.wide 0 C.P fn a.tmps (Post K C.F0 C.base C.may C.w0) a.defers .returning w := by
    refine leaves_marks (env := s.env) s.dfs s.hp a.defers w F μ ⟨hs.inv, hs.env, hs.size, rfl, hs.fr, hs.f0, hs.base, hs.globs, hs.fm⟩ hs.dfs hm fun w' hs' => ?_
    have := h _ _ ⟨F, μ, hs'⟩
    rcases hx with rfl | rfl <;> exact this
  rcases hx with rfl | rfl <;> exact key
end Bd
