import Derived.Test.YtonfljoibcnlgaaGreatDoorBj
import Derived.RangeFuncRecord
namespace Bd
open Go
section
variable {P₀ : Program} {ns : Nat} {C : Ctx P₀ ns}
theorem inv_putObj {F μ may hp w} {o b base tot : Nat} {ob ob' : Obj} {c' : HO} (h : Inv F μ may hp w) (hc : hp.get o = some (.raw ob)) (hm : μ o = some (.at b base tot)) (hc' : c' = .raw ob' ∨ c' = .dead) :
    Inv F μ may ((o, c') :: hp) (w.putObj b ob') ∧ Ext F μ w F μ (w.putObj b ob') ∧ (∀ mm : Nat → Prop, mm b → Fr mm w (w.putObj b ob')) := by
  obtain ⟨b', base', tot', k1, k2, k3, k4⟩ := h.obj o _ hc
  rw [hm] at k1; cases k1
  have hlt : b < w.heap.size := (Array.getElem?_eq_some_iff.1 k4).1
  have hoth : ∀ b', b' ≠ b → (w.putObj b ob').heap[b']? = w.heap[b']? := fun b' hb' => World.putObj_heap_other hb'
  have hext : Ext F μ w F μ (w.putObj b ob') := ⟨fun _ h => h, fun b' c hb' hc => by rw [blk_same (hoth b' fun e => k2 (e ▸ hb'))]; exact hc, fun _ _ h => h⟩
  have conv : ∀ k ck, Heap.get ((o, c') :: hp) k = some ck → ck ≠ .dead → ∃ ck', hp.get k = some ck' ∧ ck' ≠ .dead := fun k ck hk hn => by
    rw [heap_get_cons] at hk
    by_cases e' : o = k
    · subst e'; exact ⟨_, hc, by simp⟩
    · simp [e'] at hk; exact ⟨ck, hk, hn⟩
  refine ⟨⟨fun b' hb' => ?_, fun i ci hi => ?_, fun i j bi ba ti ba' tj ci cj hi hj hni hnj hmi hmj => ?_, fun i hi => ?_⟩, hext, fun mm hmm => ⟨rfl, rfl, rfl, by simp, fun b' hb' => hoth b' fun e => hb' (e ▸ hmm)⟩⟩
  · obtain ⟨c, hc⟩ := h.fro b' hb'; exact ⟨c, hext.kept _ _ hb' hc⟩
  · rw [heap_get_cons] at hi
    by_cases e' : o = i
    · subst e'; simp at hi; subst hi
      rcases hc' with rfl | rfl
      · exact ⟨b, base, tot, hm, k2, k3, World.putObj_heap_same hlt⟩
      · exact ⟨_, hm⟩
    · simp [e'] at hi
      have := h.obj i ci hi
      have hne : ∀ b' ba tt, ci ≠ .dead → μ i = some (.at b' ba tt) → b' ≠ b := fun b' ba tt hd hmi eb => by
        subst eb
        exact e' (h.apart o i b' base tot ba tt (.raw ob) ci hc hi (by simp) hd hm hmi)
      cases ci with
      | av x =>
        rcases this with ⟨k1, k2, k3⟩ | ⟨b', ba, tt, el, cs, k1, k2, k3, k4, k5, k6, k7⟩
        · exact .inl ⟨k1, k2, ra_mono hext k3⟩
        · exact .inr ⟨b', ba, tt, el, cs, k1, k2, k3, by rw [hoth b' (hne _ _ _ (by simp) k1)]; exact k4, k5, k6, ra_mono hext k7⟩
      | raw ob2 => obtain ⟨b', ba, tt, k1, k2, k3, k4⟩ := this; exact ⟨b', ba, tt, k1, k2, k3, by rw [hoth b' (hne _ _ _ (by simp) k1)]; exact k4⟩
      | dead => exact this
  · obtain ⟨ci', hi', hni'⟩ := conv i ci hi hni
    obtain ⟨cj', hj', hnj'⟩ := conv j cj hj hnj
    exact h.apart i j bi ba ti ba' tj ci' cj' hi' hj' hni' hnj' hmi hmj
  · rw [heap_get_cons] at hi
    by_cases e' : o = i
    · simp [e'] at hi
    · simp [e'] at hi; exact h.dom i hi
theorem sat_newObj {s : AS} {a : Act} {w : World} {F μ} {o : Nat} {ob : Obj} (h : SatW C s a w F μ) (hn : s.hp.get o = none) :
    SatW C ⟨s.env, (o, .raw ob) :: s.hp, s.dfs⟩ a (w.alloc ob) F (fun i => if i = o then some (.at w.heap.size 0 0) else μ i) ∧ Ext F μ w F (fun i => if i = o then some (.at w.heap.size 0 0) else μ i) (w.alloc ob) := by
  have hmo : μ o = none := h.inv.dom o hn
  have hold : ∀ b, b < w.heap.size → (w.heap.push ob)[b]? = w.heap[b]? := fun b hb => by rw [Array.getElem?_push, if_neg (by omega)]
  have hnew : (w.heap.push ob)[w.heap.size]? = some ob := by simp
  have hmu : ∀ i p, μ i = some p → (if i = o then some (Place.at w.heap.size 0 0) else μ i) = some p := fun i p hp => by
    by_cases e' : i = o
    · subst e'; rw [hmo] at hp; cases hp
    · simp [e', hp]
  have hext : Ext F μ w F (fun i => if i = o then some (.at w.heap.size 0 0) else μ i) (w.alloc ob) :=
    ⟨fun _ h => h, fun b c hb hc => by rw [blk_same (w := w) (hold b (blk_lt hc))]; exact hc, hmu⟩
  have hlt : ∀ b, F b → b < w.heap.size := fun b hb => by obtain ⟨c, hc⟩ := h.inv.fro b hb; exact blk_lt hc
  refine ⟨⟨⟨fun b hb => ?_, fun i ci hi => ?_, fun i j bi ba ti ba' tj ci cj hi hj hni hnj hmi hmj => ?_, fun i hi => ?_⟩, envOk_mono hext h.env, h.size, dfsOk_mono hmu h.dfs,
    h.fr.trans ⟨rfl, rfl, rfl, by rw [World.size_alloc]; omega, fun b hb => hold b ?_⟩, h.f0, fun i p hp => hmu i p (h.base i p hp), globs_mono hext.fro hext.kept h.globs, h.fm⟩, hext⟩
  · obtain ⟨c, hc⟩ := h.inv.fro b hb; exact ⟨c, hext.kept _ _ hb hc⟩
  · rw [heap_get_cons] at hi
    by_cases e' : o = i
    · subst e'; simp at hi; subst hi
      exact ⟨w.heap.size, 0, 0, by simp, fun hF => Nat.lt_irrefl _ (hlt _ hF), C.new _ h.fr.size, hnew⟩
    · simp [e'] at hi
      have := h.inv.obj i ci hi
      have hio : i ≠ o := fun e'' => e' e''.symm
      cases ci with
      | av x =>
        rcases this with ⟨k1, k2, k3⟩ | ⟨b', ba, tt, el, cs', k1, k2, k3, k4, k5, k6, k7⟩
        · exact .inl ⟨by simp [hio, k1], k2, ra_mono hext k3⟩
        · exact .inr ⟨b', ba, tt, el, cs', by simp [hio, k1], k2, k3, by rw [← k4]; exact hold b' (Array.getElem?_eq_some_iff.1 k4).1, k5, k6, ra_mono hext k7⟩
      | raw ob => obtain ⟨b', ba, tt, k1, k2, k3, k4⟩ := this; exact ⟨b', ba, tt, by simp [hio, k1], k2, k3, by rw [← k4]; exact hold b' (Array.getElem?_eq_some_iff.1 k4).1⟩
      | dead => obtain ⟨p, hp⟩ := this; exact ⟨p, by simp [hio, hp]⟩
  · have place : ∀ k ck b' ba tt, s.hp.get k = some ck → ck ≠ .dead → μ k = some (.at b' ba tt) → b' < w.heap.size := fun k ck b' ba tt hk hd hm => by
      have := h.inv.obj k ck hk
      cases ck with
      | av x =>
        rcases this with ⟨k1, _⟩ | ⟨b1, ba1, tt1, el, cs', k1, k2, k3, k4, _⟩
        · rw [hm] at k1; cases k1
        · rw [hm] at k1; cases k1; exact (Array.getElem?_eq_some_iff.1 k4).1
      | raw ob => obtain ⟨b1, ba1, tt1, k1, k2, k3, k4⟩ := this; rw [hm] at k1; cases k1; exact (Array.getElem?_eq_some_iff.1 k4).1
      | dead => exact absurd rfl hd
    rw [heap_get_cons] at hi hj
    by_cases ei : o = i
    · by_cases ej : o = j
      · exact ei.symm.trans ej
      · simp [ej] at hj
        subst ei
        have hjo : j ≠ o := fun e' => ej e'.symm
        simp at hmi
        simp [hjo] at hmj
        have := place j cj bi ba' tj hj hnj hmj
        omega
    · simp [ei] at hi
      have hio : i ≠ o := fun e' => ei e'.symm
      simp [hio] at hmi
      by_cases ej : o = j
      · subst ej
        simp at hmj
        have := place i ci bi ba ti hi hni hmi
        omega
      · simp [ej] at hj
        have hjo : j ≠ o := fun e' => ej e'.symm
        simp [hjo] at hmj
        exact h.inv.apart i j bi ba ti ba' tj ci cj hi hj hni hnj hmi hmj
  · rw [heap_get_cons] at hi
    by_cases e' : o = i
    · simp [e'] at hi
    · simp [e'] at hi
      have : i ≠ o := fun e'' => e' e''.symm
      simp [this, h.inv.dom i hi]
  · by_cases hlt : b < w.heap.size
    · exact hlt
    · exact absurd (C.new b (Nat.le_trans h.fr.size (by omega))) hb
end
section
variable {P₀ : Program} {ns : Nat} {C : Ctx P₀ ns} {ops : Array Oper} {d ty : Nat} {ps : String} {af : Array Edge} {gd : Option (Nat × Bool)}
theorem f_makeFunc {fn : Fn} {fs cs : Array Operand} {xs ys : List AV} (hlt : Nat.blt d C.n = true) (h1 : fs.toList.length = xs.length) (h2 : cs.toList.length = ys.length) (hx : xs.all AV.mem = true) (hy : ys.all AV.mem = true) :
    Fact C ⟨some d, .makeFunc fn fs cs, ty, ps, af, gd⟩ { er := fs.toList.zip xs ++ cs.toList.zip ys, d := some (d, .fn fn xs ys) } :=
  fact_pure rfl hlt (by intro c h; cases h) fun s a w F μ he _ hs => by
    have he := envHas_iff.1 he
    have r1 := rac_evals hs h1 (envHas_iff.2 fun p hp => he p (List.mem_append.2 (.inl hp))) hx
    have r2 := rac_evals hs h2 (envHas_iff.2 fun p hp => he p (List.mem_append.2 (.inr hp))) hy
    refine ⟨.func fn (fs.map a.eval) (cs.map a.eval), rfl, ⟨?_, rfl⟩⟩
    simp only [RA]
    exact ⟨fs.toList.map a.eval, cs.toList.map a.eval, by simp [Value.cells, ← Array.toList_map], r1, r2⟩
theorem rv_fn {F μ w f first caps v} (h : RV F μ w (.fn f first caps) v) : ∃ fs vs : List Value, v = .func f fs.toArray vs.toArray ∧ RAc F μ w first fs ∧ RAc F μ w caps vs := by
  obtain ⟨h1, h2⟩ := h
  simp only [RA] at h1
  obtain ⟨fs, vs, hc, k1, k2⟩ := h1
  refine ⟨fs, vs, ?_, k1, k2⟩
  have := cells_single (v := v) h2
  rw [hc] at this
  simpa using this.symm
theorem rac_append {F μ w} : ∀ {xs ys : List AV} {vs us : List Value}, RAc F μ w xs vs → RAc F μ w ys us → RAc F μ w (xs ++ ys) (vs ++ us)
  | [], ys, vs, us, h, k => by simp only [RAc] at h; subst h; exact k
  | x :: xs, ys, vs, us, h, k => by
    simp only [RAc] at h
    obtain ⟨v, vs', rfl, h1, h2, h3⟩ := h
    exact ⟨v, vs' ++ us, rfl, h1, h2, rac_append h3 k⟩
end
structure Pin {P₀ : Program} {ns : Nat} (C : Ctx P₀ ns) (n : Nat) (env : Env) (t : Array Value) : Prop where
  env : EnvOk C.F0 C.base C.w0 env t
  size : t.size = n
theorem fence_inRound {P₀ : Program} {ns : Nat} (C : Ctx P₀ ns) (l : Nat) : C.fence.inRound l = Fence.wide.inRound l := by
  unfold Ctx.fence; cases C.round <;> rfl
def RangeEnd {P₀ : Program} {ns : Nat} (C : Ctx P₀ ns) (Q : Exit → Act → World → Prop) (s : AS) : Option Code → Prop
  | none => AQ C Q .normal s
  | some c => AW C c Q s
section
variable {P₀ : Program} {ns : Nat} {C : Ctx P₀ ns} {Q : Exit → Act → World → Prop} {s : AS}
theorem aw_range {g : Operand} {ps : Array Tmp} {assign body : Code} {f : FuncId} {fn1 : Func} {c1 : Code} {caps : List AV} (D L : Nat) (hro : C.round = none) (hg : evalA C s.env g = some (.fn (.func f) [] caps))
    (hf : P₀.funcs[f]? = some fn1) (hb : fn1.body = some c1) (hres : fn1.results = #[]) (hen : enterB P₀ f = true) (hD : s.hp.get D = none) (hL : s.hp.get L = none) (hDL : Nat.beq L D = false)
    (hlen : Nat.ble (caps.length + 1) fn1.ntmps = true)
    (H : ∀ (C1 : Ctx P₀ fn1.ntmps) (r : Loop) (E : Exit → Act → World → Prop), C1.round = none → C1.globs = C.globs →
      (∀ o, Heap.get ((L, HO.raw (.loop r)) :: (D, .raw (.deferred (some []))) :: s.hp) o = none → C1.base o = none) → r.state = .ready → r.pending = none → r.params = ps → r.assign = assign → r.body = body → Pin C1 ns s.env r.tmps →
      (∀ ex s1 st pd, (ex = .ret ∨ ex = .normal) → s1.dfs = [] → s1.hp.get L = some (.raw (.loop { r with state := st, pending := pd })) → st ≠ .busy →
        RangeEnd C Q ⟨s.env, (L, .dead) :: s1.hp, D :: s.dfs⟩ pd → AQ C1 E ex s1) →
      AW C1 c1 E ⟨argEnv (.yld L :: caps) 0, (L, .raw (.loop r)) :: (D, .raw (.deferred (some []))) :: s.hp, []⟩) :
    AW C (.rangeFunc g ps assign body) Q s := by
  intro a w hs
  obtain ⟨F, μ, hs⟩ := hs
  obtain ⟨fs, vs, hv, r1, r2⟩ := rv_fn (evalA_ok hs hg)
  simp only [RAc] at r1
  subst r1
  have hDL' : L ≠ D := Nat.ne_of_beq_eq_false hDL
  refine wpIn_rangeFunc fun fn _ => ?_
  let r : Loop := { state := .ready, pending := none, fn, tmps := a.tmps, params := ps, assign, body, defers := w.heap.size }
  obtain ⟨s1, e1⟩ := sat_newObj (ob := .deferred (some [])) hs hD
  obtain ⟨s2, e2⟩ := sat_newObj (o := L) (ob := .loop r) s1 (by rw [heap_get_cons, if_neg (Ne.symm hDL')]; exact hL)
  have hFlt : ∀ b, F b → b < ((w.alloc (.deferred (some []))).alloc (.loop r)).heap.size := fun b hb => by obtain ⟨c, hc⟩ := s2.inv.fro b hb; exact blk_lt hc
  have ext := e1.trans e2
  let μ2 : Mu := fun i => if i = L then some (.at (w.alloc (.deferred (some []))).heap.size 0 0) else if i = D then some (.at w.heap.size 0 0) else μ i
  let C1 : Ctx P₀ fn1.ntmps := { w0 := (w.alloc (.deferred (some []))).alloc (.loop r), F0 := F, base := μ2, may := fun b => C.may b ∧ ¬ F b, round := none, globs := C.globs,
                                 new := fun b hb => ⟨C.new b (Nat.le_trans s2.fr.size hb), fun hF => by have := hFlt b hF; omega⟩, apart := fun b hb h => h.2 hb, mixed := C.mixed }
  have hsz : (w.alloc (.deferred (some []))).heap.size = w.heap.size + 1 := World.size_alloc ..
  have hmuL : μ2 L = some (.at (w.heap.size + 1) 0 0) := by simp [μ2, hsz]
  have hmuD : μ2 D = some (.at w.heap.size 0 0) := by simp [μ2, Ne.symm hDL']
  refine ⟨w.heap.size + 1, [{ target := .collected w.heap.size, args := #[] }], (w.alloc (.deferred (some []))).alloc (.loop r), { target := .fn (.func f) vs.toArray, args := #[.func (.yield (w.heap.size + 1)) #[] #[]] },
    (w.alloc (.deferred (some []))).alloc (.loop r), f, (.func (.yield (w.heap.size + 1)) #[] #[] :: vs).toArray, (w.alloc (.deferred (some []))).alloc (.loop r), ?_, ?_, fun f' _ => C.fence_fn f', ?_, (fun h => by rw [C.fence_depth] at h; cases h), ?_⟩
  · rw [C.fence_round, hro]; exact run_enterLoop_outer fn a.tmps ps assign body
  · simp only [resolve, rangeCall, hv, Deferred.ofValue, Sem.run_pure]
    simp [Act.eval]
  · simp only [invoke]
    rw [run_callFunc hen]; simp
  · refine callsIn_fence ?_
    refine callsIn_of_wp_marks hf hb trivial (H C1 r _ rfl rfl s2.inv.dom rfl rfl rfl rfl rfl ⟨s2.env, s2.size⟩ ?_ _ _ ⟨F, μ2, inv_may s2.inv fun b h1 h2 => ⟨h1, h2⟩, ?_, ?_, rfl, Fr.refl _ _, fun _ h => h, fun _ _ h => h, s2.globs, fun _ h => .inl h⟩)
    ·
      intro ex s' st pd hex hd hl hst hend a1 w1 hs1
      obtain ⟨F', μ', hs1⟩ := hs1
      have hmL : μ' L = some (.at (w.heap.size + 1) 0 0) := hs1.base L _ hmuL
      obtain ⟨b, ba, tt, k1, k2, k3, k4⟩ := hs1.inv.obj L _ hl
      rw [hmL] at k1; cases k1
      obtain ⟨i1, x1, f1⟩ := inv_putObj (ob' := .loop { r with state := .exhausted, pending := pd }) hs1.inv hl hmL (.inr rfl)
      have hx : Ext F μ2 C1.w0 F' μ' w1 := ⟨hs1.f0, hs1.ext, hs1.base⟩
      have hleave : LeavesInM Fence.wide 0 P₀ fn1 a1.tmps (rangePost C.fence 0 C.P (w.heap.size + 1) Q { a with defers := [{ target := .collected w.heap.size, args := #[] }] ++ a.defers }) a1.defers .returning w1 := by
        have hdf := hs1.dfs
        rw [hd] at hdf
        rw [show a1.defers = [] from hdf]
        refine ⟨.tuple #[], ?_, pd, w1.putObj (w.heap.size + 1) (.loop { r with state := .exhausted, pending := pd }), ?_, ?_⟩
        · unfold results; rw [hres]; simp
        · have := run_endLoop (P := C.P) k4 (by simpa using hst)
          simpa using this
        · have hsat : Sat C ⟨s.env, (L, .dead) :: s'.hp, D :: s.dfs⟩ { a with defers := [{ target := .collected w.heap.size, args := #[] }] ++ a.defers } (w1.putObj (w.heap.size + 1) (.loop { r with state := .exhausted, pending := pd })) := by
            have hxx := (ext.trans hx).trans x1
            refine ⟨F', μ', inv_may i1 fun b h1 _ => h1.1, envOk_mono hxx hs.env, hs.size, ?_, ?_, fun b hb => hs1.f0 b (hs.f0 b hb), fun o p hp => hxx.mu o p (hs.base o p hp), globs_mono hxx.fro hxx.kept hs.globs, fun b hb => ?_⟩
            · exact ⟨w.heap.size, 0, 0, a.defers, hs1.base D _ hmuD, rfl, dfsOk_mono hxx.mu hs.dfs⟩
            · exact (s2.fr.trans (hs1.fr.weak fun b h => h.1)).trans (f1 _ k3.1)
            · rcases hs1.fm b hb with h | h
              · exact hs.fm b h
              · exact .inr h.1
          cases pd with
          | none => exact hend _ _ hsat
          | some c => exact hend _ _ hsat
      rcases hex with rfl | rfl <;> exact hleave
    · intro i x hi
      obtain ⟨_, hx⟩ := argEnv_get hi
      simp only [Nat.sub_zero] at hx
      have hall : RAc F μ2 ((w.alloc (.deferred (some []))).alloc (.loop r)) (.yld L :: caps) (.func (.yield (w.heap.size + 1)) #[] #[] :: vs) :=
        ⟨_, _, rfl, by simp only [RA]; exact ⟨w.heap.size + 1, 0, 0, hmuL, rfl⟩, rfl, rac_mono ext r2⟩
      obtain ⟨v, h1, h2, h3⟩ := rac_get hall hx
      have hvi : i < (Value.func (.yield (w.heap.size + 1)) #[] #[] :: vs).length := (List.getElem?_eq_some_iff.1 h1).1
      have hg : ((Value.func (.yield (w.heap.size + 1)) #[] #[] :: vs).toArray ++ Array.replicate (fn1.ntmps - (Value.func (.yield (w.heap.size + 1)) #[] #[] :: vs).toArray.size) undef).getD i undef = v := by
        have : (Value.func (.yield (w.heap.size + 1)) #[] #[] :: vs)[i] = v := by rw [List.getElem?_eq_getElem hvi] at h1; simpa using h1
        rw [Array.getD_eq_getD_getElem?, Array.getElem?_append_left (by simpa using hvi)]
        rw [List.getElem?_toArray, h1]; rfl
      rw [hg]
      cases x with
      | res xs => simp only [RA] at h2
      | junk => simp only [RA] at h2
      | _ => exact ⟨h2, h3⟩
    · show _ = fn1.ntmps
      have := Nat.le_of_ble_eq_true hlen
      have h3 := rac_length r2
      simp; omega
end
end Bd
