import Derived.Test.YtonfljoibcnlgaaGreatDoorCh
namespace Bd
open Go
def lastOk (ops : List Oper) : Bool := (List.range (ops.length - 1)).all fun i => (List.range ops.length).any fun k => Nat.blt i k && edge ops k i
theorem draw_last {P₀ : Program} {ns : Nat} {C : Ctx P₀ ns} {ops : Array Oper} {os : List Oper} {ol : Oper} {fs : List FD} {s s' : AS} (hops : ops.toList = os ++ [ol]) (h : Chain C ops os fs s s') (hedges : edgesOk ops.toList 0 = true) (hrows : rowsOk os fs fs 0 = true) (hlast : lastOk ops.toList = true) {Q : Exit → Act → World → Prop}
    (hq : R C ops [ol] s' Q) : ∀ (fuel : Nat) (L : Array Bool), Lst ops L → L.getD os.length false = false → L.toList.count false = fuel → ∀ si a w, Sat C si a w →
      (∀ t, si.env.get t = (wrE fs (fun k => L.getD k false) 0 t).or (s.env.get t)) → (∀ t, si.hp.get t = (wrH fs (fun k => L.getD k false) 0 t).or (s.hp.get t)) → si.dfs = s.dfs →
      wpAnyIn C.fence 0 C.P .any ops Q fuel L a w := by
  obtain ⟨hlen, hat, hendE, hendH, hendD⟩ := chain_at h
  have hfl : fs.length = os.length := hlen.symm
  have hsz : ops.size = os.length + 1 := by rw [← Array.length_toList, hops]; simp
  have hopsAt : ∀ k, k < os.length → ops[k]? = os[k]? := fun k hk => by rw [← Array.getElem?_toList, hops, List.getElem?_append_left hk]
  have hopsL : ops[os.length]? = some ol := by rw [← Array.getElem?_toList, hops]; simp
  intro fuel
  induction fuel with
  | zero =>
    intro L hL hno0 hc
    exfalso
    have hs : os.length < L.size := by rw [hL.size, hsz]; omega
    have : L[os.length] = false := by simpa [Array.getD, hs] using hno0
    have hm : false ∈ L.toList := by rw [← this]; simp
    exact absurd (List.count_pos_iff.2 hm) (by omega)
  | succ fuel ih =>
    intro L hL hno0 hc si a w hs h1 h2 h3
    have hsL : os.length < L.size := by rw [hL.size, hsz]; omega
    refine ⟨fun hr => ?_, fun i hi => ?_⟩
    · exfalso
      have := ready_nil hedges hL.size hr os.length (by omega)
      simp [Array.getD, hsL] at this hno0
      rw [this] at hno0; cases hno0
    obtain ⟨hlt, hno, hed⟩ := mem_ready hi
    have hiL : i < L.size := by rw [hL.size]; exact hlt
    by_cases hil : i = os.length
    ·
      subst hil
      have hall : ∀ d k, k + d + 1 = os.length → L.getD k false = true := by
        intro d
        induction d using Nat.strongRecOn with
        | _ d ih2 =>
          intro k hk
          have hrow := List.all_eq_true.1 hlast k (List.mem_range.2 (by rw [hops]; simp; omega))
          obtain ⟨j, hj, hjk⟩ := List.any_eq_true.1 hrow
          rw [Bool.and_eq_true] at hjk
          obtain ⟨hlt', hedge⟩ := hjk
          have hlt' : k < j := by simpa [Nat.blt_eq] using hlt'
          have hjl : j < os.length + 1 := by have := List.mem_range.1 hj; rw [hops] at this; simpa using this
          have hoj : ops[j]? = some ops[j] := Array.getElem?_eq_getElem (by omega)
          simp only [edge, Array.getElem?_toList, hoj, Option.map_some, Option.getD_some, Array.any_eq_true'] at hedge
          obtain ⟨e, hm', he⟩ := hedge
          rw [Bool.and_eq_true] at he
          have hon := Nat.eq_of_beq_eq_true he.2
          by_cases hje : j = os.length
          · subst hje
            have := hed _ hoj e hm' he.1
            rw [hon] at this; exact this
          · have hjt := ih2 (os.length - j - 1) (by omega) j (by omega)
            have hjL : j < L.size := by rw [hL.size, hsz]; omega
            have := hL.down j ops[j] hoj (by simp [Array.getD, hjL] at hjt ⊢; exact hjt) e hm' he.1
            rw [hon] at this; exact this
      have hall' : ∀ k, k < os.length → L.getD k false = true := fun k hk => hall (os.length - k - 1) k (by omega)
      have hsame : Sat C s' a w := sat_same ⟨fun t => by
          rw [hendE, h1]; congr 1
          exact wrE_congr fun i f hf _ => by
            have : i < fs.length := (List.getElem?_eq_some_iff.1 hf).1
            simp only [Nat.zero_add]; exact (hall' i (by omega)).symm, fun t => by
          rw [hendH, h2]; congr 1
          exact wrH_congr fun i f hf _ => by
            have : i < fs.length := (List.getElem?_eq_some_iff.1 hf).1
            simp only [Nat.zero_add]; exact (hall' i (by omega)).symm, by rw [hendD, h3]⟩ hs
      have hrun := hq os hops a w hsame
      rw [show ([ol] : List Oper).length = 1 from rfl, List.range'_one, wpOpsIn_cons] at hrun
      refine wpOpIn_mono (fun a' w' hk => ?_) hrun
      have hk : Q .normal a' w' := by simpa [wpOpsIn] using hk
      have hnone : Region.ready .any ops (L.setIfInBounds os.length true) = [] := by
        cases hr : Region.ready .any ops (L.setIfInBounds os.length true) with
        | nil => rfl
        | cons i l =>
          exfalso
          have hi := mem_ready (i := i) (by rw [hr]; simp)
          have hno' := hi.2.1
          by_cases hio : i = os.length
          · subst hio
            simp [Array.getD, hsL] at hno'
          · have := hall' i (by omega)
            have hiL' : i < L.size := by rw [hL.size]; exact hi.1
            simp [Array.getD, hiL', Array.getElem_setIfInBounds, Ne.symm hio] at hno' this
            rw [this] at hno'; cases hno'
      cases fuel with
      | zero => exact ⟨hnone, hk⟩
      | succ fuel => exact ⟨fun _ => hk, fun i hi => by rw [hnone] at hi; cases hi⟩
    have hiF : i < fs.length := by omega
    obtain ⟨o, sx, ho, hst, hpre, hxE, hxH⟩ := hat i fs[i] (List.getElem?_eq_getElem hiF)
    have ho' : ops[i]? = some o := by rw [hopsAt i (by omega)]; exact ho
    have hnoF : L.getD i false = false := by have := hno; simp [Array.getD, hiL] at this ⊢; exact this
    have hmeet : ∀ k g, fs[k]? = some g → k ≠ i → meets fs[i] g = true → L.getD k false = decide (k < i) := by
      intro k g hg hne hm
      have hrow := rowsOk_at hrows i fs[i] (List.getElem?_eq_getElem hiF)
      rw [Nat.zero_add] at hrow
      have := rowOk_at hrow k g hg (by omega) hm
      simp only [Nat.zero_add] at this
      have hkF : k < fs.length := (List.getElem?_eq_some_iff.1 hg).1
      by_cases hki : k < i
      · have he := this.1 hki
        simp only [edge, ho, Option.map_some, Option.getD_some, Array.any_eq_true'] at he
        obtain ⟨e, hm', he⟩ := he
        rw [Bool.and_eq_true] at he
        have hon := Nat.eq_of_beq_eq_true he.2
        have := hed o ho' e hm' he.1
        rw [hon] at this
        simp [this, hki]
      · have he := this.2 (by omega)
        have hok : ops[k]? = some ops[k] := Array.getElem?_eq_getElem (by omega)
        have hok2 : os[k]? = some ops[k] := by rw [← hopsAt k (by omega)]; exact hok
        simp only [edge, hok2, Option.map_some, Option.getD_some, Array.any_eq_true'] at he
        obtain ⟨e, hm', he⟩ := he
        rw [Bool.and_eq_true] at he
        have hon := Nat.eq_of_beq_eq_true he.2
        simp only [hki, decide_false]
        cases hl : L.getD k false with
        | false => rfl
        | true =>
          exfalso
          have hkL : k < L.size := by rw [hL.size]; omega
          have := hL.down k ops[k] hok (by simp [Array.getD, hkL] at hl ⊢; exact hl) e hm' he.1
          rw [hon] at this; rw [this] at hnoF; cases hnoF
    have hself : L.getD i false = decide (i < i) := by simp [hnoF]
    have eE : ∀ t, t ∈ slotsOf fs[i] → si.env.get t = sx.env.get t := by
      intro t ht
      rw [h1, hxE]; congr 1
      refine wrE_congr fun k g hg hne => ?_
      simp only [Nat.zero_add]
      by_cases hk : k = i
      · subst hk; exact hself
      · exact hmeet k g hg hk (meets_env hne ht)
    have eH : ∀ t, t ∈ objsOf fs[i] → si.hp.get t = sx.hp.get t := by
      intro t ht
      rw [h2, hxH]; congr 1
      refine wrH_congr fun k g hg hne => ?_
      simp only [Nat.zero_add]
      by_cases hk : k = i
      · subst hk; exact hself
      · exact hmeet k g hg hk (meets_hp hne ht)
    have hpre' : fs[i].pre C si := by
      refine ⟨envHas_iff.2 fun p hp => ?_, heapHas_iff.2 fun p hp => ?_, heapNo_iff.2 fun p hp => ?_⟩
      · have h0 := envHas_iff.1 hpre.er p hp
        obtain ⟨po, px⟩ := p
        cases po with
        | tmp t => simp only [Ev, evalA] at h0 ⊢; rw [eE t (List.mem_append.2 (.inr (List.mem_flatMap.2 ⟨_, hp, by simp [tmpOf]⟩)))]; exact h0
        | _ => exact h0
      · rw [eH p.1 (List.mem_append.2 (.inl (List.mem_append.2 (.inr (List.mem_map.2 ⟨p, hp, rfl⟩)))))]; exact heapHas_iff.1 hpre.hr p hp
      · rw [eH p (List.mem_append.2 (.inr hp))]; exact heapNo_iff.1 hpre.hn p hp
    have hstep := hst si hpre' a w (wpAnyIn C.fence 0 C.P .any ops Q fuel (L.setIfInBounds i true)) Q hs (fun a' w' hs' => by
      have hget : ∀ k, (L.setIfInBounds i true).getD k false = if k = i then true else L.getD k false := by
        intro k
        by_cases hk : k = i
        · subst hk; simp [Array.getD, hiL]
        · simp only [if_neg hk, Array.getD_eq_getD_getElem?, Array.getElem?_setIfInBounds_ne (Ne.symm hk)]
      have hgetT : ∀ k, (L.setIfInBounds i true).getD k true = if k = i then true else L.getD k true := by
        intro k
        by_cases hk : k = i
        · subst hk; simp [Array.getD, hiL]
        · simp only [if_neg hk, Array.getD_eq_getD_getElem?, Array.getElem?_setIfInBounds_ne (Ne.symm hk)]
      refine ih _ ⟨by simp [hL.size], fun k ok hok hk e he hb => ?_⟩ (by rw [hget, if_neg (by omega)]; exact hno0) ?_ (fs[i].upd si) a' w' hs' ?_ ?_ h3
      · rw [hget]
        by_cases hon : e.on = i
        · simp [hon]
        · rw [if_neg hon]
          by_cases hki : k = i
          · subst hki; rw [ho'] at hok; cases hok; exact hed o ho' e he hb
          · rw [hgetT, if_neg hki] at hk; exact hL.down k ok hok hk e he hb
      · have hLi : L[i] = false := by simpa [Array.getD, hiL] using hnoF
        have hc' : (L.toList.set i true).count false = L.toList.count false - 1 := by
          rw [List.count_set (by simpa using hiL)]
          simp [hLi]
        simp only [Array.toList_setIfInBounds]
        omega
      · intro t
        rw [upd_env, h1]
        by_cases ht : fs[i].envw t = none
        · rw [ht]; simp only [Option.none_or]; congr 1
          refine wrE_congr fun k g hg hne => ?_
          simp only [Nat.zero_add]
          rw [hget]
          by_cases hk : k = i
          · subst hk; rw [List.getElem?_eq_getElem hiF] at hg; cases hg; exact absurd ht hne
          · rw [if_neg hk]
        · have hsl : t ∈ slotsOf fs[i] := by
            unfold FD.envw at ht
            cases hd : fs[i].d with
            | none => simp [hd] at ht
            | some p =>
              simp only [hd] at ht
              have hb : Nat.beq p.1 t = true := by cases hb : Nat.beq p.1 t with | true => rfl | false => simp [hb] at ht
              simp [slotsOf, hd, Nat.eq_of_beq_eq_true hb]
          have := wrE_last (L := fun k => (L.setIfInBounds i true).getD k false) (t := t) (fs := fs) (k := 0) (i := i) (List.getElem?_eq_getElem hiF) (by simp [hget]) ht (fun j g hj hg hne => by
            simp only [Nat.zero_add]
            rw [hget, if_neg (by omega)]
            rw [hmeet j g hg (by omega) (meets_env hne hsl)]
            simp; omega)
          rw [this]
          cases hx : fs[i].envw t with
          | none => exact absurd hx ht
          | some x => rfl
      · intro t
        rw [upd_hp, h2]
        by_cases ht : fs[i].hpw t = none
        · rw [ht]; simp only [Option.none_or]; congr 1
          refine wrH_congr fun k g hg hne => ?_
          simp only [Nat.zero_add]
          rw [hget]
          by_cases hk : k = i
          · subst hk; rw [List.getElem?_eq_getElem hiF] at hg; cases hg; exact absurd ht hne
          · rw [if_neg hk]
        · have hsl : t ∈ objsOf fs[i] := List.mem_append.2 (.inl (List.mem_append.2 (.inl (get_mem ht))))
          have := wrH_last (L := fun k => (L.setIfInBounds i true).getD k false) (t := t) (fs := fs) (k := 0) (i := i) (List.getElem?_eq_getElem hiF) (by simp [hget]) ht (fun j g hj hg hne => by
            simp only [Nat.zero_add]
            rw [hget, if_neg (by omega)]
            rw [hmeet j g hg (by omega) (meets_hp hne hsl)]
            simp; omega)
          rw [this]
          cases hx : fs[i].hpw t with
          | none => exact absurd hx ht
          | some x => rfl)
    unfold wpOpIn
    rw [ho']
    by_cases hw : Region.wanted o (yielded ops a.tmps) = true
    · simp only [hw, if_true] at hstep ⊢; exact hstep
    · simp only [hw, if_false] at hstep ⊢
      exact ⟨fun f _ => C.fence_fn f, hstep⟩
theorem aw_drawLast {P₀ : Program} {ns : Nat} {C : Ctx P₀ ns} {id : Nat} {ops : Array Oper} {os : List Oper} {ol : Oper} {fs : List FD} {s s' : AS} {Q : Exit → Act → World → Prop} (hops : ops.toList = os ++ [ol]) (h : Chain C ops os fs s s') (hedges : edgesOk ops.toList 0 = true) (hrows : rowsOk os fs fs 0 = true) (hlast : lastOk ops.toList = true)
    (hq : R C ops [ol] s' Q) : AW C (.region id ops true) Q s := fun a w hs => wpIn_region_any C.mixed (by
  have hz : ∀ k, (Array.replicate ops.size false).getD k false = false := fun k => by simp [Array.getD]
  have zz : (fun k => (Array.replicate ops.size false).getD k false) = fun _ => false := funext hz
  refine draw_last hops h hedges hrows hlast hq ops.size _ ⟨by simp, fun i o ho hi => ?_⟩ (hz _) (by simp) s a _ (sat_drew hs) (fun t => by rw [zz, wrE_false]; rfl) (fun t => by rw [zz, wrH_false]; rfl) rfl
  exfalso
  have hlt : i < ops.size := (Array.getElem?_eq_some_iff.1 ho).1
  simp [Array.getD, hlt] at hi)
section
variable {P₀ : Program} {ns : Nat} {C : Ctx P₀ ns} {Q : Exit → Act → World → Prop} {s : AS}
theorem aw_range2 {g : Operand} {ps : Array Tmp} {assign body : Code} {f : FuncId} {fn1 : Func} {c1 : Code} {caps : List AV} (D L : Nat) (hro : C.round = none) (hg : evalA C s.env g = some (.fn (.func f) [] caps))
    (hf : P₀.funcs[f]? = some fn1) (hb : fn1.body = some c1) (hres : fn1.results = #[]) (hen : enterB P₀ f = true) (hD : s.hp.get D = none) (hL : s.hp.get L = none) (hDL : Nat.beq L D = false)
    (hlen : Nat.ble (caps.length + 1) fn1.ntmps = true)
    (H : ∀ (C1 : Ctx P₀ fn1.ntmps) (r : Loop) (E : Exit → Act → World → Prop), C1.round = none → C1.globs = C.globs → (∀ n' env t, Pin C n' env t → Pin C1 n' env t) →
      (∀ o, Heap.get ((L, HO.raw (.loop r)) :: (D, .raw (.deferred (some []))) :: s.hp) o = none → C1.base o = none) → r.state = .ready → r.pending = none → r.params = ps → r.assign = assign → r.body = body → Pin C1 ns s.env r.tmps →
      (∀ ex s1 st pd, (ex = .ret ∨ ex = .normal) → marksOk s1.hp s1.dfs → (marksDead s1.hp s1.dfs).get L = some (.raw (.loop { r with state := st, pending := pd })) → st ≠ .busy →
        RangeEnd C Q ⟨s.env, (L, .dead) :: marksDead s1.hp s1.dfs, D :: s.dfs⟩ pd → AQ C1 E ex s1) →
      AW C1 c1 E ⟨argEnv (.yld L :: caps) 0, (L, .raw (.loop r)) :: (D, .raw (.deferred (some []))) :: s.hp, []⟩) :
    AW C (.rangeFunc g ps assign body) Q s := by
  intro a w hs
  obtain ⟨F, μ, hs⟩ := hs
  obtain ⟨fs, vs, hv, r1, r2⟩ := rv_fn (evalA_ok hs hg)
  simp only [RAc] at r1
  subst r1
  have hDL' : L ≠ D := Nat.ne_of_beq_eq_false hDL
  refine wpIn_rangeFunc fun fn _ => ?_
  let r : Loop := { state := .ready, pending := none, fn, tmps := a.tmps, params := ps, assign, body, defers := w.heap.size }
  obtain ⟨s1, e1⟩ := sat_newObj (ob := .deferred (some [])) hs hD
  obtain ⟨s2, e2⟩ := sat_newObj (o := L) (ob := .loop r) s1 (by rw [heap_get_cons, if_neg (Ne.symm hDL')]; exact hL)
  have hFlt : ∀ b, F b → b < ((w.alloc (.deferred (some []))).alloc (.loop r)).heap.size := fun b hb => by obtain ⟨c, hc⟩ := s2.inv.fro b hb; exact blk_lt hc
  have ext := e1.trans e2
  let μ2 : Mu := fun i => if i = L then some (.at (w.alloc (.deferred (some []))).heap.size 0 0) else if i = D then some (.at w.heap.size 0 0) else μ i
  let C1 : Ctx P₀ fn1.ntmps := { w0 := (w.alloc (.deferred (some []))).alloc (.loop r), F0 := F, base := μ2, may := fun b => C.may b ∧ ¬ F b, round := none, globs := C.globs,
                                 new := fun b hb => ⟨C.new b (Nat.le_trans s2.fr.size hb), fun hF => by have := hFlt b hF; omega⟩, apart := fun b hb h => h.2 hb, mixed := C.mixed }
  have hsz : (w.alloc (.deferred (some []))).heap.size = w.heap.size + 1 := World.size_alloc ..
  have hmuL : μ2 L = some (.at (w.heap.size + 1) 0 0) := by simp [μ2, hsz]
  have hmuD : μ2 D = some (.at w.heap.size 0 0) := by simp [μ2, Ne.symm hDL']
  refine ⟨w.heap.size + 1, [{ target := .collected w.heap.size, args := #[] }], (w.alloc (.deferred (some []))).alloc (.loop r), { target := .fn (.func f) vs.toArray, args := #[.func (.yield (w.heap.size + 1)) #[] #[]] },
    (w.alloc (.deferred (some []))).alloc (.loop r), f, (.func (.yield (w.heap.size + 1)) #[] #[] :: vs).toArray, (w.alloc (.deferred (some []))).alloc (.loop r), ?_, ?_, fun f' _ => C.fence_fn f', ?_, (fun h => by rw [C.fence_depth] at h; cases h), ?_⟩
  · rw [C.fence_round, hro]; exact run_enterLoop_outer fn a.tmps ps assign body
  · simp only [resolve, rangeCall, hv, Deferred.ofValue, Sem.run_pure]
    simp [Act.eval]
  · simp only [invoke]
    rw [run_callFunc hen]; simp
  · refine callsIn_fence ?_
    refine callsIn_of_wp_marks hf hb trivial (H C1 r _ rfl rfl (fun n' env t hp => ⟨envOk_mono ((⟨hs.f0, hs.ext, hs.base⟩ : Ext C.F0 C.base C.w0 F μ w).trans ext) hp.env, hp.size⟩) s2.inv.dom rfl rfl rfl rfl rfl ⟨s2.env, s2.size⟩ ?_ _ _ ⟨F, μ2, inv_may s2.inv fun b h1 h2 => ⟨h1, h2⟩, ?_, ?_, rfl, Fr.refl _ _, fun _ h => h, fun _ _ h => h, s2.globs, fun _ h => .inl h⟩)
    ·
      intro ex s' st pd hex hd hl hst hend a1 w1 hs1
      obtain ⟨F', μ', hs0⟩ := hs1
      have hleave : LeavesInM Fence.wide 0 P₀ fn1 a1.tmps (rangePost C.fence 0 C.P (w.heap.size + 1) Q { a with defers := [{ target := .collected w.heap.size, args := #[] }] ++ a.defers }) a1.defers .returning w1 := by
        refine leaves_marks (env := s'.env) s'.dfs s'.hp a1.defers w1 F' μ' ⟨hs0.inv, hs0.env, hs0.size, rfl, hs0.fr, hs0.f0, hs0.base, hs0.globs, hs0.fm⟩ hs0.dfs hd fun w1 hs1 => ?_
        have hmL : μ' L = some (.at (w.heap.size + 1) 0 0) := hs1.base L _ hmuL
        obtain ⟨b, ba, tt, k1, k2, k3, k4⟩ := hs1.inv.obj L _ hl
        rw [hmL] at k1; cases k1
        obtain ⟨i1, x1, f1⟩ := inv_putObj (ob' := .loop { r with state := .exhausted, pending := pd }) hs1.inv hl hmL (.inr rfl)
        have hx : Ext F μ2 C1.w0 F' μ' w1 := ⟨hs1.f0, hs1.ext, hs1.base⟩
        refine ⟨.tuple #[], ?_, pd, w1.putObj (w.heap.size + 1) (.loop { r with state := .exhausted, pending := pd }), ?_, ?_⟩
        · unfold results; rw [hres]; simp
        · have := run_endLoop (P := C.P) k4 (by simpa using hst)
          simpa using this
        · have hsat : Sat C ⟨s.env, (L, .dead) :: marksDead s'.hp s'.dfs, D :: s.dfs⟩ { a with defers := [{ target := .collected w.heap.size, args := #[] }] ++ a.defers } (w1.putObj (w.heap.size + 1) (.loop { r with state := .exhausted, pending := pd })) := by
            have hxx := (ext.trans hx).trans x1
            refine ⟨F', μ', inv_may i1 fun b h1 _ => h1.1, envOk_mono hxx hs.env, hs.size, ?_, ?_, fun b hb => hs1.f0 b (hs.f0 b hb), fun o p hp => hxx.mu o p (hs.base o p hp), globs_mono hxx.fro hxx.kept hs.globs, fun b hb => ?_⟩
            · exact ⟨w.heap.size, 0, 0, a.defers, hs1.base D _ hmuD, rfl, dfsOk_mono hxx.mu hs.dfs⟩
            · exact (s2.fr.trans (hs1.fr.weak fun b h => h.1)).trans (f1 _ k3.1)
            · rcases hs1.fm b hb with h | h
              · exact hs.fm b h
              · exact .inr h.1
          cases pd with
          | none => exact hend _ _ hsat
          | some c => exact hend _ _ hsat
      rcases hex with rfl | rfl <;> exact hleave
    · intro i x hi
      obtain ⟨_, hx⟩ := argEnv_get hi
      simp only [Nat.sub_zero] at hx
      have hall : RAc F μ2 ((w.alloc (.deferred (some []))).alloc (.loop r)) (.yld L :: caps) (.func (.yield (w.heap.size + 1)) #[] #[] :: vs) :=
        ⟨_, _, rfl, by simp only [RA]; exact ⟨w.heap.size + 1, 0, 0, hmuL, rfl⟩, rfl, rac_mono ext r2⟩
      obtain ⟨v, h1, h2, h3⟩ := rac_get hall hx
      have hvi : i < (Value.func (.yield (w.heap.size + 1)) #[] #[] :: vs).length := (List.getElem?_eq_some_iff.1 h1).1
      have hg : ((Value.func (.yield (w.heap.size + 1)) #[] #[] :: vs).toArray ++ Array.replicate (fn1.ntmps - (Value.func (.yield (w.heap.size + 1)) #[] #[] :: vs).toArray.size) undef).getD i undef = v := by
        have : (Value.func (.yield (w.heap.size + 1)) #[] #[] :: vs)[i] = v := by rw [List.getElem?_eq_getElem hvi] at h1; simpa using h1
        rw [Array.getD_eq_getD_getElem?, Array.getElem?_append_left (by simpa using hvi)]
        rw [List.getElem?_toArray, h1]; rfl
      rw [hg]
      cases x with
      | res xs => simp only [RA] at h2
      | junk => simp only [RA] at h2
      | _ => exact ⟨h2, h3⟩
    · show _ = fn1.ntmps
      have := Nat.le_of_ble_eq_true hlen
      have h3 := rac_length r2
      simp; omega
end
theorem heap_fresh : ∀ h : Heap, ∃ N, ∀ o, N ≤ o → h.get o = none
  | [] => ⟨0, fun _ _ => rfl⟩
  | (i, c) :: h => by
    obtain ⟨N, hN⟩ := heap_fresh h
    refine ⟨max N (i + 1), fun o ho => ?_⟩
    rw [heap_get_cons, if_neg (by omega)]
    exact hN o (by omega)
section
variable {P₀ : Program} {ns : Nat} {C : Ctx P₀ ns} {ops : Array Oper} {full os : List Oper} {acc : List FD} {ol o : Oper} {Q : Exit → Act → World → Prop}
def RDL (C : Ctx P₀ ns) (ops : Array Oper) (full os : List Oper) (acc : List FD) (ol : Oper) (s : AS) (Q : Exit → Act → World → Prop) : Prop :=
  ∃ fs s', Chain C ops os fs s s' ∧ rowsOk full (acc.reverse ++ fs) (acc.reverse ++ fs) 0 = true ∧ R C ops [ol] s' Q
theorem RDL.nil {s : AS} (hok : rowsOk full (acc.reverse ++ []) (acc.reverse ++ []) 0 = true) (k : R C ops [ol] s Q) : RDL C ops full [] acc ol s Q := ⟨[], s, .nil, hok, k⟩
theorem RDL.step {f : FD} {s : AS} (st : Step C ops o f) (hp : f.pre C s) (k : RDL C ops full os (f :: acc) ol (f.upd s) Q) : RDL C ops full (o :: os) acc ol s Q :=
  let ⟨fs, s', h, hok, hk⟩ := k; ⟨f :: fs, s', .cons st hp h, by simpa using hok, hk⟩
variable {e : Env} {h : Heap} {ds : List Nat} {er : List (Operand × AV)} {hr : List (Nat × HO)} {d : Nat} {x : AV} {hn : List Nat} {hw : List (Nat × HO)}
theorem RDL.v (f : Fact C o { er := er, hr := hr, d := some (d, x) }) (hg : o.guard = none) (he : EnvHas C e er) (hh : HeapHas h hr) (k : RDL C ops full os ({ er := er, hr := hr, d := some (d, x) } :: acc) ol ⟨(d, x) :: e, h, ds⟩ Q) : RDL C ops full (o :: os) acc ol ⟨e, h, ds⟩ Q :=
  .step (step_plain f hg) ⟨he, hh, .nil⟩ k
theorem RDL.w (f : Fact C o { er := er, hr := hr, hn := hn, d := some (d, x), hw := hw }) (hg : o.guard = none) (he : EnvHas C e er) (hh : HeapHas h hr) (hi : HeapNo h hn)
    (k : RDL C ops full os ({ er := er, hr := hr, hn := hn, d := some (d, x), hw := hw } :: acc) ol ⟨(d, x) :: e, hw ++ h, ds⟩ Q) : RDL C ops full (o :: os) acc ol ⟨e, h, ds⟩ Q :=
  .step (step_plain f hg) ⟨he, hh, hi⟩ k
theorem aw_rdl {id : Nat} {s : AS} (k : Nat) (hd : ops.toList.drop k = [ol]) (hedges : edgesOk ops.toList 0 = true) (hlast : lastOk ops.toList = true) (h : RDL C ops (ops.toList.take k) (ops.toList.take k) [] ol s Q) : AW C (.region id ops true) Q s := by
  obtain ⟨fs, s', h1, h2, h3⟩ := h
  exact aw_drawLast (os := ops.toList.take k) (by rw [← hd, List.take_append_drop]) h1 hedges (by simpa using h2) hlast h3
end
end Bd
