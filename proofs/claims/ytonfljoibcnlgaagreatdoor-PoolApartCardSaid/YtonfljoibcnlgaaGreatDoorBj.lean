import Derived.Test.YtonfljoibcnlgaaGreatDoorBi
namespace Bd
open Go
section
variable {P₀ : Program} {ns : Nat} {C : Ctx P₀ ns} {ops : Array Oper}
def R (C : Ctx P₀ ns) (ops : Array Oper) (os : List Oper) (s : AS) (Q : Exit → Act → World → Prop) : Prop :=
 ∀ pre : List Oper, ops.toList = pre ++ os → ∀ a w, Sat C s a w → wpOpsIn C.fence 0 C.P ops Q (List.range' pre.length os.length) a w
def RD (C : Ctx P₀ ns) (ops : Array Oper) (os : List Oper) (acc : List FD) (s : AS) (K : AS → Prop) : Prop :=
 ∃ fs s', Chain C ops os fs s s' ∧ drawOk ops.toList (acc.reverse ++ fs) = true ∧ K s'
theorem R.nil {s : AS} {Q : Exit → Act → World → Prop} (k : AQ C Q .normal s) : R C ops [] s Q := fun pre _ a w hs => by simpa [wpOpsIn] using k a w hs
theorem RD.nil {acc : List FD} {s : AS} {K : AS → Prop} (hok : drawOk ops.toList (acc.reverse ++ []) = true) (k : K s) : RD C ops [] acc s K := ⟨[], s, .nil, hok, k⟩
theorem R.cons {o : Oper} {os : List Oper} {s : AS} {Q : Exit → Act → World → Prop} (k : ∀ a w nx, Sat C s a w → (∀ s' a' w', Sat C s' a' w' → R C ops os s' Q → nx a' w') →
  if Region.wanted o (yielded ops a.tmps) then o.wpIn C.fence 0 C.P a w nx Q else nx (a.put o.dst undef) w) : R C ops (o :: os) s Q := by
 intro pre hops a w hs
 have ho : ops[pre.length]? = some o := by rw [← Array.getElem?_toList, hops]; simp
 rw [List.length_cons, List.range'_succ, wpOpsIn_cons]
 unfold wpOpIn
 rw [ho]
 have := k a w (wpOpsIn C.fence 0 C.P ops Q (List.range' (pre.length + 1) os.length)) hs (fun s' a' w' hs' hr => by
  have := hr (pre ++ [o]) (by simp [hops]) a' w' hs'
  simpa using this)
 by_cases hw : Region.wanted o (yielded ops a.tmps) = true
 ·simp only [hw, if_true] at this ⊢; exact this
 ·simp only [hw, if_false] at this ⊢
  exact ⟨fun f _ => C.fence_fn f, this⟩
theorem R.step {o : Oper} {os : List Oper} {f : FD} {s : AS} {Q : Exit → Act → World → Prop} (st : Step C ops o f) (hp : f.pre C s) (k : R C ops os (f.upd s) Q) : R C ops (o :: os) s Q := by
 intro pre hops a w hs
 have ho : ops[pre.length]? = some o := by rw [← Array.getElem?_toList, hops]; simp
 rw [List.length_cons, List.range'_succ, wpOpsIn_cons]
 unfold wpOpIn
 rw [ho]
 have := st s hp a w (wpOpsIn C.fence 0 C.P ops Q (List.range' (pre.length + 1) os.length)) Q hs (fun a' w' hs' => by
  have := k (pre ++ [o]) (by simp [hops]) a' w' hs'
  simpa using this)
 by_cases hw : Region.wanted o (yielded ops a.tmps) = true
 ·simp only [hw, if_true] at this ⊢; exact this
 ·simp only [hw, if_false] at this ⊢
  exact ⟨fun f _ => C.fence_fn f, this⟩
theorem RD.step {o : Oper} {os : List Oper} {f : FD} {acc : List FD} {s : AS} {K : AS → Prop} (st : Step C ops o f) (hp : f.pre C s) (k : RD C ops os (f :: acc) (f.upd s) K) : RD C ops (o :: os) acc s K :=
 let ⟨fs, s', h, hok, hk⟩ := k; ⟨f :: fs, s', .cons st hp h, by simpa using hok, hk⟩
variable {o : Oper} {os : List Oper} {e : Env} {h : Heap} {ds : List Nat} {K : AS → Prop} {Q : Exit → Act → World → Prop} {er : List (Operand × AV)} {hr : List (Nat × HO)} {d : Nat} {x : AV} {i : Nat} {c : HO} {acc : List FD} {j g : Nat} {b want : Bool}
 {hn : List Nat} {hw : List (Nat × HO)}
theorem R.v (f : Fact C o { er := er, hr := hr, d := some (d, x) }) (hg : o.guard = none) (he : EnvHas C e er) (hh : HeapHas h hr) (k : R C ops os ⟨(d, x) :: e, h, ds⟩ Q) : R C ops (o :: os) ⟨e, h, ds⟩ Q :=
 .step (step_plain f hg) ⟨he, hh, .nil⟩ k
theorem R.n (f : Fact C o { er := er, hn := [i], d := some (d, x), hw := [(i, c)] }) (hg : o.guard = none) (he : EnvHas C e er) (hi : h.get i = none) (k : R C ops os ⟨(d, x) :: e, (i, c) :: h, ds⟩ Q) : R C ops (o :: os) ⟨e, h, ds⟩ Q :=
 .step (step_plain f hg) ⟨he, .nil, .cons hi .nil⟩ k
theorem R.s (f : Fact C o { er := er, hr := hr, hw := [(i, c)] }) (hg : o.guard = none) (he : EnvHas C e er) (hh : HeapHas h hr) (k : R C ops os ⟨e, (i, c) :: h, ds⟩ Q) : R C ops (o :: os) ⟨e, h, ds⟩ Q :=
 .step (step_plain f hg) ⟨he, hh, .nil⟩ k
theorem R.w (f : Fact C o { er := er, hr := hr, hn := hn, d := some (d, x), hw := hw }) (hg : o.guard = none) (he : EnvHas C e er) (hh : HeapHas h hr) (hi : HeapNo h hn) (k : R C ops os ⟨(d, x) :: e, hw ++ h, ds⟩ Q) : R C ops (o :: os) ⟨e, h, ds⟩ Q :=
 .step (step_plain f hg) ⟨he, hh, hi⟩ k
theorem R.gv (f : Fact C o { er := er, hr := hr, d := some (d, x) }) (hg : o.guard = some (j, want)) (hj : ((ops[j]?).bind (·.dst)) = some g) (hgv : evalA C e (.tmp g) = some (.d (.val (.bool b)))) (hb : b = want)
  (he : EnvHas C e er) (hh : HeapHas h hr) (k : R C ops os ⟨(d, x) :: e, h, ds⟩ Q) : R C ops (o :: os) ⟨e, h, ds⟩ Q :=
 .step (step_on f hg hj hb) ⟨.c hgv he, hh, .nil⟩ k
theorem R.gw (f : Fact C o { er := er, hr := hr, hn := hn, d := some (d, x), hw := hw }) (hg : o.guard = some (j, want)) (hj : ((ops[j]?).bind (·.dst)) = some g) (hgv : evalA C e (.tmp g) = some (.d (.val (.bool b)))) (hb : b = want)
  (he : EnvHas C e er) (hh : HeapHas h hr) (hi : HeapNo h hn) (k : R C ops os ⟨(d, x) :: e, hw ++ h, ds⟩ Q) : R C ops (o :: os) ⟨e, h, ds⟩ Q :=
 .step (step_on f hg hj hb) ⟨.c hgv he, hh, hi⟩ k
theorem R.off (hg : o.guard = some (j, want)) (hj : ((ops[j]?).bind (·.dst)) = some g) (hgv : evalA C e (.tmp g) = some (.d (.val (.bool b)))) (hb : b = !want) (hd : o.dst = some d) (hlt : Nat.blt d C.n = true)
  (k : R C ops os ⟨(d, .res []) :: e, h, ds⟩ Q) : R C ops (o :: os) ⟨e, h, ds⟩ Q :=
 .step (step_off hg hj hb hd hlt) ⟨.c hgv .nil, .nil, .nil⟩ k
theorem R.off' (hg : o.guard = some (j, want)) (hj : ((ops[j]?).bind (·.dst)) = some g) (hgv : evalA C e (.tmp g) = some (.d (.val (.bool b)))) (hb : b = !want) (hd : o.dst = none)
  (k : R C ops os ⟨e, h, ds⟩ Q) : R C ops (o :: os) ⟨e, h, ds⟩ Q :=
 .step (step_off' hg hj hb hd) ⟨.c hgv .nil, .nil, .nil⟩ k
theorem RD.v (f : Fact C o { er := er, hr := hr, d := some (d, x) }) (hg : o.guard = none) (he : EnvHas C e er) (hh : HeapHas h hr) (k : RD C ops os ({ er := er, hr := hr, d := some (d, x) } :: acc) ⟨(d, x) :: e, h, ds⟩ K) : RD C ops (o :: os) acc ⟨e, h, ds⟩ K :=
 .step (step_plain f hg) ⟨he, hh, .nil⟩ k
theorem RD.n (f : Fact C o { er := er, hn := [i], d := some (d, x), hw := [(i, c)] }) (hg : o.guard = none) (he : EnvHas C e er) (hi : h.get i = none) (k : RD C ops os ({ er := er, hn := [i], d := some (d, x), hw := [(i, c)] } :: acc) ⟨(d, x) :: e, (i, c) :: h, ds⟩ K) : RD C ops (o :: os) acc ⟨e, h, ds⟩ K :=
 .step (step_plain f hg) ⟨he, .nil, .cons hi .nil⟩ k
theorem RD.s (f : Fact C o { er := er, hr := hr, hw := [(i, c)] }) (hg : o.guard = none) (he : EnvHas C e er) (hh : HeapHas h hr) (k : RD C ops os ({ er := er, hr := hr, hw := [(i, c)] } :: acc) ⟨e, (i, c) :: h, ds⟩ K) : RD C ops (o :: os) acc ⟨e, h, ds⟩ K :=
 .step (step_plain f hg) ⟨he, hh, .nil⟩ k
theorem RD.w (f : Fact C o { er := er, hr := hr, hn := hn, d := some (d, x), hw := hw }) (hg : o.guard = none) (he : EnvHas C e er) (hh : HeapHas h hr) (hi : HeapNo h hn)
  (k : RD C ops os ({ er := er, hr := hr, hn := hn, d := some (d, x), hw := hw } :: acc) ⟨(d, x) :: e, hw ++ h, ds⟩ K) : RD C ops (o :: os) acc ⟨e, h, ds⟩ K :=
 .step (step_plain f hg) ⟨he, hh, hi⟩ k
theorem RD.gv (f : Fact C o { er := er, hr := hr, d := some (d, x) }) (hg : o.guard = some (j, want)) (hj : ((ops[j]?).bind (·.dst)) = some g) (hgv : evalA C e (.tmp g) = some (.d (.val (.bool b)))) (hb : b = want)
  (he : EnvHas C e er) (hh : HeapHas h hr) (k : RD C ops os ({ er := (.tmp g, .d (.val (.bool b))) :: er, hr := hr, d := some (d, x) } :: acc) ⟨(d, x) :: e, h, ds⟩ K) : RD C ops (o :: os) acc ⟨e, h, ds⟩ K :=
 .step (step_on f hg hj hb) ⟨.c hgv he, hh, .nil⟩ k
theorem RD.gw (f : Fact C o { er := er, hr := hr, hn := hn, d := some (d, x), hw := hw }) (hg : o.guard = some (j, want)) (hj : ((ops[j]?).bind (·.dst)) = some g) (hgv : evalA C e (.tmp g) = some (.d (.val (.bool b)))) (hb : b = want)
  (he : EnvHas C e er) (hh : HeapHas h hr) (hi : HeapNo h hn) (k : RD C ops os ({ er := (.tmp g, .d (.val (.bool b))) :: er, hr := hr, hn := hn, d := some (d, x), hw := hw } :: acc) ⟨(d, x) :: e, hw ++ h, ds⟩ K) : RD C ops (o :: os) acc ⟨e, h, ds⟩ K :=
 .step (step_on f hg hj hb) ⟨.c hgv he, hh, hi⟩ k
theorem RD.off (hg : o.guard = some (j, want)) (hj : ((ops[j]?).bind (·.dst)) = some g) (hgv : evalA C e (.tmp g) = some (.d (.val (.bool b)))) (hb : b = !want) (hd : o.dst = some d) (hlt : Nat.blt d C.n = true)
  (k : RD C ops os ({ er := [(.tmp g, .d (.val (.bool b)))], d := some (d, .res []) } :: acc) ⟨(d, .res []) :: e, h, ds⟩ K) : RD C ops (o :: os) acc ⟨e, h, ds⟩ K :=
 .step (step_off hg hj hb hd hlt) ⟨.c hgv .nil, .nil, .nil⟩ k
theorem RD.off' (hg : o.guard = some (j, want)) (hj : ((ops[j]?).bind (·.dst)) = some g) (hgv : evalA C e (.tmp g) = some (.d (.val (.bool b)))) (hb : b = !want) (hd : o.dst = none)
  (k : RD C ops os ({ er := [(.tmp g, .d (.val (.bool b)))] } :: acc) ⟨e, h, ds⟩ K) : RD C ops (o :: os) acc ⟨e, h, ds⟩ K :=
 .step (step_off' hg hj hb hd) ⟨.c hgv .nil, .nil, .nil⟩ k
theorem R.offu (hg : o.guard = some (j, want)) (hj : ((ops[j]?).bind (·.dst)) = some g) (hgv : evalA C e (.tmp g) = some (.res [])) (hd : o.dst = some d) (hlt : Nat.blt d C.n = true)
  (k : R C ops os ⟨(d, .res []) :: e, h, ds⟩ Q) : R C ops (o :: os) ⟨e, h, ds⟩ Q :=
 .step (step_offu hg hj hd hlt) ⟨.c hgv .nil, .nil, .nil⟩ k
theorem RD.offu (hg : o.guard = some (j, want)) (hj : ((ops[j]?).bind (·.dst)) = some g) (hgv : evalA C e (.tmp g) = some (.res [])) (hd : o.dst = some d) (hlt : Nat.blt d C.n = true)
  (k : RD C ops os ({ er := [(.tmp g, .res [])], d := some (d, .res []) } :: acc) ⟨(d, .res []) :: e, h, ds⟩ K) : RD C ops (o :: os) acc ⟨e, h, ds⟩ K :=
 .step (step_offu hg hj hd hlt) ⟨.c hgv .nil, .nil, .nil⟩ k
variable {rid : Nat} {y : Code} {s : AS}
theorem aw_r (k : R C ops ops.toList s Q) : AW C (.region rid ops false) Q s := fun a w hs => wpIn_region (by
 have := k [] (by simp) a w hs
 simpa [List.range_eq_range'] using this)
theorem aw_rd (k : RD C ops ops.toList [] s (AQ C Q .normal)) : AW C (.region rid ops true) Q s := let ⟨_, _, h, hok, hq⟩ := k; aw_draw h hok hq
theorem aw_rs (k : R C ops ops.toList s (Exit.then (y.wpIn C.fence 0 C.P Q) Q)) : AW C (.seq (.region rid ops false) y) Q s := aw_seq (aw_r k)
theorem aw_rds (k : RD C ops ops.toList [] s (AW C y Q)) : AW C (.seq (.region rid ops true) y) Q s := let ⟨_, _, h, hok, hq⟩ := k; aw_seq (aw_draw h hok hq)
theorem aq_fin1 {fn : Func} {K : AV → Heap → Prop} {xs : List AV} (hr : ResV C s fn.results.toList xs) (hd : s.dfs = []) (hk : K (retA xs) s.hp) : AQ C (Fin C fn K) .ret s := aq_fin (.inl rfl) hr hd hk
theorem aq_fin0 {fn : Func} {K : AV → Heap → Prop} {xs : List AV} (hr : ResV C s fn.results.toList xs) (hd : s.dfs = []) (hk : K (retA xs) s.hp) : AQ C (Fin C fn K) .normal s := aq_fin (.inr rfl) hr hd hk
theorem aq_finp {fn : Func} {K : AV → Heap → Prop} {xs : List AV} {hp0 : Heap} (hb : ∀ o, hp0.get o = none → C.base o = none) (h0 : hp0 = []) (hr : ResV C s fn.results.toList xs) (hx : pures xs = true) (hd : s.dfs = []) (hk : K (retA xs) []) : AQ C (Fin C fn K) .ret s :=
 aq_fin_pure hb h0 (.inl rfl) hr hx hd hk
end
end Bd
