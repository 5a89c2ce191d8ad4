import Derived.Test.YtonfljoibcnlgaaGreatDoorCc
namespace Bd
open Go
section
variable {P₀ : Program} {ns : Nat} {C : Ctx P₀ ns} {Q : Exit → Act → World → Prop} {e : Env} {h : Heap} {ds : List Nat} {a : Act} {w : World}
theorem sat_moveH {c o o' : Nat} {x y : AV} {z : AV} (hn : h.get o' = none) (hc : h.get c = some (.av x)) (ho : h.get o = some (.av z)) (hco : Nat.beq c o = false) (hy : x.ren (fun i => bif Nat.beq i o then o' else i) = y)
  (hs : Sat C ⟨e, h, ds⟩ a w) : Sat C ⟨e, (c, .av y) :: (o', .av z) :: (o, .dead) :: h, ds⟩ a w := by
 obtain ⟨F, μ, hs⟩ := hs
 subst hy
 have hco := Nat.ne_of_beq_eq_false hco
 have hmo' : μ o' = none := hs.inv.dom o' hn
 have hoo : o' ≠ o := fun e => by subst e; rw [hn] at ho; cases ho
 have hoc : o' ≠ c := fun e => by subst e; rw [hn] at hc; cases hc
 let μ' : Mu := fun i => if i = o' then μ o else μ i
 have m1 : μ' o' = μ o := by show (if _ then _ else _) = _; rw [if_pos rfl]
 have m2 : ∀ i, i ≠ o' → μ' i = μ i := fun i hi => by show (if _ then _ else _) = _; rw [if_neg hi]
 have hmu : ∀ i p, μ i = some p → μ' i = some p := fun i p hp => by
  by_cases e : i = o'
  ·subst e; rw [hmo'] at hp; cases hp
  ·rw [m2 i e]; exact hp
 have hext : Ext F μ w F μ' w := ⟨fun _ h => h, Kept.refl _ _, hmu⟩
 have hmv : ∀ i p, μ i = some p → μ' (bif Nat.beq i o then o' else i) = some p := fun i p hp => by
  cases hb : Nat.beq i o with
  | true => have := Nat.eq_of_beq_eq_true hb; subst this; simp only [cond_true]; rw [m1]; exact hp
  | false => simp only [cond_false]; exact hmu i p hp
 have look : ∀ q, Heap.get ((c, .av (x.ren (fun i => bif Nat.beq i o then o' else i))) :: (o', .av z) :: (o, .dead) :: h) q =
   if q = c then some (.av (x.ren (fun i => bif Nat.beq i o then o' else i))) else if q = o' then some (.av z) else if q = o then some .dead else h.get q := fun q => by
  rw [heap_get_cons, heap_get_cons, heap_get_cons]
  by_cases e1 : q = c
  ·simp [e1]
  ·by_cases e2 : q = o'
   ·simp [e2, Ne.symm hoc, hoc]
   ·by_cases e3 : q = o
    ·simp [e3, hco, Ne.symm hco, hoo, Ne.symm hoo]
    ·simp [e1, e2, e3, Ne.symm e1, Ne.symm e2, Ne.symm e3]
 have was : ∀ q cq, Heap.get ((c, .av (x.ren (fun i => bif Nat.beq i o then o' else i))) :: (o', .av z) :: (o, .dead) :: h) q = some cq → cq ≠ .dead → ∃ q0 c0, h.get q0 = some c0 ∧ c0 ≠ .dead ∧ (∀ p, μ' q = some p → μ q0 = some p) ∧ (q0 = if q = o' then o else q) := fun q cq hq hd => by
  rw [look] at hq
  by_cases e1 : q = c
  ·subst e1; exact ⟨q, _, hc, by simp, fun p hp => by rw [m2 q (Ne.symm hoc)] at hp; exact hp, by rw [if_neg (Ne.symm hoc)]⟩
  ·rw [if_neg e1] at hq
   by_cases e2 : q = o'
   ·subst e2; exact ⟨o, _, ho, by simp, fun p hp => by rw [m1] at hp; exact hp, by rw [if_pos rfl]⟩
   ·rw [if_neg e2] at hq
    by_cases e3 : q = o
    ·rw [if_pos e3] at hq; cases hq; exact absurd rfl hd
    ·rw [if_neg e3] at hq; exact ⟨q, _, hq, hd, fun p hp => by rw [m2 q e2] at hp; exact hp, by rw [if_neg e2]⟩
 refine ⟨F, μ', ⟨hs.inv.fro, fun q cq hq => ?_, fun q q' b ba t ba' t' cq cq' h1 h2 h3 h4 h5 h6 => ?_, fun q hq => ?_⟩, envOk_mono hext hs.env, hs.size, dfsOk_mono hmu hs.dfs, hs.fr, hs.f0, fun i p hp => hmu i p (hs.base i p hp), globs_mono hext.fro hext.kept hs.globs, hs.fm⟩
 ·rw [look] at hq
  by_cases e1 : q = c
  ·rw [if_pos e1] at hq; cases hq; subst e1
   rcases hs.inv.obj q _ hc with ⟨k1, k2, k3⟩ | ⟨b, base, tot, el, cs, k1, k2, k3, k4, k5, k6, k7⟩
   ·exact .inl ⟨hmu _ _ k1, by rw [size_ren]; exact k2, ra_shiftG hmv k3⟩
   ·exact .inr ⟨b, base, tot, el, cs, hmu _ _ k1, k2, k3, k4, k5, by rw [size_ren]; exact k6, by rw [size_ren]; exact ra_shiftG hmv k7⟩
  ·rw [if_neg e1] at hq
   by_cases e2 : q = o'
   ·rw [if_pos e2] at hq; cases hq; subst e2
    rcases hs.inv.obj o _ ho with ⟨k1, k2, k3⟩ | ⟨b, base, tot, el, cs, k1, k2, k3, k4, k5, k6, k7⟩
    ·exact .inl ⟨by rw [m1]; exact k1, k2, ra_mono hext k3⟩
    ·exact .inr ⟨b, base, tot, el, cs, by rw [m1]; exact k1, k2, k3, k4, k5, k6, ra_mono hext k7⟩
   ·rw [if_neg e2] at hq
    by_cases e3 : q = o
    ·rw [if_pos e3] at hq; cases hq; subst e3
     rcases hs.inv.obj q _ ho with ⟨k1, _⟩ | ⟨b, base, tot, el, cs, k1, _⟩
     ·exact ⟨_, hmu _ _ k1⟩
     ·exact ⟨_, hmu _ _ k1⟩
    ·rw [if_neg e3] at hq
     have := hs.inv.obj q cq hq
     cases cq with
     | av x' =>
      rcases this with ⟨k1, k2, k3⟩ | ⟨b, base, tot, el, cs, k1, k2, k3, k4, k5, k6, k7⟩
      ·exact .inl ⟨hmu _ _ k1, k2, ra_mono hext k3⟩
      ·exact .inr ⟨b, base, tot, el, cs, hmu _ _ k1, k2, k3, k4, k5, k6, ra_mono hext k7⟩
     | raw ob => obtain ⟨b, base, tot, k1, k2⟩ := this; exact ⟨b, base, tot, hmu _ _ k1, k2⟩
     | dead => obtain ⟨p, hp⟩ := this; exact ⟨p, hmu _ _ hp⟩
 ·obtain ⟨q0, c0, g1, g2, g3, g4⟩ := was q cq h1 h3
  obtain ⟨q1, c1, f1, f2, f3, f4⟩ := was q' cq' h2 h4
  have hqq := hs.inv.apart q0 q1 b ba t ba' t' c0 c1 g1 f1 g2 f2 (g3 _ h5) (f3 _ h6)
  rw [g4, f4] at hqq
  have dead_o : ∀ q cq, Heap.get ((c, .av (x.ren (fun i => bif Nat.beq i o then o' else i))) :: (o', .av z) :: (o, .dead) :: h) q = some cq → cq ≠ .dead → q ≠ o := fun q cq hq hd e => by
   subst e
   rw [look, if_neg (Ne.symm hco), if_neg (Ne.symm hoo), if_pos rfl] at hq
   cases hq; exact hd rfl
  by_cases e1 : q = o'
  ·by_cases e2 : q' = o'
   ·rw [e1, e2]
   ·rw [if_pos e1, if_neg e2] at hqq; exact absurd hqq.symm (dead_o q' cq' h2 h4)
  ·by_cases e2 : q' = o'
   ·rw [if_neg e1, if_pos e2] at hqq; exact absurd hqq (dead_o q cq h1 h3)
   ·rw [if_neg e1, if_neg e2] at hqq; exact hqq
 ·rw [look] at hq
  by_cases e1 : q = c
  ·rw [if_pos e1] at hq; cases hq
  ·rw [if_neg e1] at hq
   by_cases e2 : q = o'
   ·rw [if_pos e2] at hq; cases hq
   ·rw [if_neg e2] at hq
    by_cases e3 : q = o
    ·rw [if_pos e3] at hq; cases hq
    ·rw [if_neg e3] at hq; rw [m2 q e2]; exact hs.inv.dom q hq
theorem aq_moveH {ex : Exit} {x y z : AV} (c o o' : Nat) (hn : h.get o' = none) (hc : h.get c = some (.av x)) (ho : h.get o = some (.av z)) (hco : Nat.beq c o = false) (hy : x.ren (fun i => bif Nat.beq i o then o' else i) = y)
  (k : AQ C Q ex ⟨e, (c, .av y) :: (o', .av z) :: (o, .dead) :: h, ds⟩) : AQ C Q ex ⟨e, h, ds⟩ := fun a w hs => k a w (sat_moveH hn hc ho hco hy hs)
end
mutual
inductive Opened : AV → AV → Prop
 | same (x : AV) : Opened x x
 | st {ds : List D} {ys : List AV} (h : Openeds (ds.map .d) ys) : Opened (.d (.st ds)) (.st ys)
inductive Openeds : List AV → List AV → Prop
 | nil : Openeds [] []
 | cons {x y : AV} {xs ys : List AV} (h : Opened x y) (k : Openeds xs ys) : Openeds (x :: xs) (y :: ys)
end
mutual
theorem opened_ra {F μ w} : ∀ {x y : AV} {cs : List Value}, Opened x y → RA F μ w x cs → RA F μ w y cs
 | _, _, _, .same _, h => h
 | _, _, _, .st h, hr => by
  simp only [RA, Rep] at hr ⊢
  exact openeds_ra h (ras_d hr)
theorem openeds_ra {F μ w} : ∀ {xs ys : List AV} {cs : List Value}, Openeds xs ys → RAs F μ w xs cs → RAs F μ w ys cs
 | _, _, _, .nil, h => h
 | _, _, _, .cons h k, hr => by
  simp only [RAs] at *
  obtain ⟨c1, c2, h0, h1, h2⟩ := hr
  exact ⟨c1, c2, h0, opened_ra h h1, openeds_ra k h2⟩
end
theorem zero_stN {P : Program} {t : TypeId} {z : D} {y : AV} (h : ∃ zv, zeroB P t = some zv ∧ ∀ F μ w, RA F μ w (.d z) zv.cells.toList) (ho : Opened (.d z) y) : ∃ zv, zeroB P t = some zv ∧ ∀ F μ w, RA F μ w y zv.cells.toList :=
 let ⟨zv, h1, h2⟩ := h
 ⟨zv, h1, fun F μ w => opened_ra ho (h2 F μ w)⟩
theorem SubD.rep {z z' : D} (h : SubD z z') (sz n m : Nat) : SubD (.arr sz n (List.replicate m z)) (.arr sz n (List.replicate m z')) := fun F w cs hr => by
 simp only [Rep, List.length_replicate] at hr ⊢
 refine ⟨hr.1, ?_⟩
 have key : ∀ (m : Nat) (cs : List Value), RepEach F w sz (List.replicate m z) cs → RepEach F w sz (List.replicate m z') cs := by
  intro m
  induction m with
  | zero => intro cs h; exact h
  | succ m ih =>
   intro cs hq
   simp only [List.replicate_succ, RepEach] at hq ⊢
   obtain ⟨c1, c2, h0, h1, h2, h3⟩ := hq
   exact ⟨c1, c2, h0, h1, h F w c1 h2, ih c2 h3⟩
 exact key m cs hr.2
section
variable {P₀ : Program} {ns : Nat} {C : Ctx P₀ ns} {e : Env} {h : Heap} {ds : List Nat} {a : Act} {w : World} {d ty : Nat} {ps : String} {af : Array Edge} {gd : Option (Nat × Bool)}
theorem sat_subO {o : Nat} {x y : D} (hxy : SubD x y) (hs : Sat C ⟨e, (o, .av (.d x)) :: h, ds⟩ a w) : Sat C ⟨e, (o, .av (.d y)) :: h, ds⟩ a w := by
 obtain ⟨F, μ, hs⟩ := hs
 have look : ∀ q cq, Heap.get ((o, .av (.d y)) :: h) q = some cq → cq ≠ .dead → ∃ c0, Heap.get ((o, .av (.d x)) :: h) q = some c0 ∧ c0 ≠ .dead := fun q cq hq hd => by
  rw [heap_get_cons] at hq ⊢
  by_cases e1 : o = q
  ·rw [if_pos e1]; exact ⟨_, rfl, by simp⟩
  ·rw [if_neg e1] at hq ⊢; exact ⟨_, hq, hd⟩
 refine ⟨F, μ, ⟨hs.inv.fro, fun q cq hq => ?_, fun q q' b ba t ba' t' cq cq' h1 h2 h3 h4 h5 h6 => ?_, fun q hq => ?_⟩, hs.env, hs.size, hs.dfs, hs.fr, hs.f0, hs.base, hs.globs, hs.fm⟩
 ·rw [heap_get_cons] at hq
  by_cases e1 : o = q
  ·rw [if_pos e1] at hq; cases hq; subst e1
   rcases hs.inv.obj o (.av (.d x)) (by rw [heap_get_cons, if_pos rfl]) with ⟨k1, k2, k3⟩ | ⟨b, base, tot, el, cs, k1, k2, k3, k4, k5, k6, k7⟩
   ·simp only [RA] at k3
    have := hxy _ _ _ k3
    have hl := rep_length this
    exact .inl ⟨k1, by simpa [AV.size] using hl.symm, by simpa only [RA] using this⟩
   ·have k8 := k7
    simp only [RA] at k8
    have h2 := hxy _ _ _ k8
    have hl : y.size = x.size := by
     rw [← rep_length h2, rep_length k8]
    refine .inr ⟨b, base, tot, el, cs, k1, k2, k3, k4, k5, by simp only [AV.size, hl]; exact k6, ?_⟩
    simp only [RA, AV.size, hl]; exact h2
  ·rw [if_neg e1] at hq
   exact hs.inv.obj q cq (by rw [heap_get_cons, if_neg e1]; exact hq)
 ·obtain ⟨c1, m1, n1⟩ := look q cq h1 h3
  obtain ⟨c2, m2, n2⟩ := look q' cq' h2 h4
  exact hs.inv.apart q q' b ba t ba' t' c1 c2 m1 m2 n1 n2 h5 h6
 ·rw [heap_get_cons] at hq
  by_cases e1 : o = q
  ·rw [if_pos e1] at hq; cases hq
  ·rw [if_neg e1] at hq; exact hs.inv.dom q (by rw [heap_get_cons, if_neg e1]; exact hq)
theorem f_makeSZ {t : TypeId} {l : Operand} {k : IntKind} {n : Int} {sz bts m : Nat} {z z' : D} {zs : List D} (o : Nat) (hlt : Nat.blt d C.n = true) (ht : elB C.P t = some (sz, bts)) (hz : zelB C.P t = some z.cells) (hf : z.flat = true) (h0 : 0 ≤ n) (hb : bts * n ≤ 140737488355328)
  (h63 : n ≤ 140737488355328) (hzz : SubD z z') (hm : n.toNat = m) (hzs : List.replicate n.toNat z' = zs) :
  Fact C ⟨some d, .makeSlice t l l, ty, ps, af, gd⟩ { er := [(l, .d (.val (.int k n)))], hn := [o], d := some (d, .slc o 0 m sz), hw := [(o, .av (.d (.arr sz m zs)))] } := by
 subst hzs
 intro s pre a w nx Q hs kk
 exact f_makeSE (ps := ps) (af := af) (gd := gd) (ty := ty) o hlt ht hz hf h0 hb h63 hm rfl s ⟨pre.er, pre.hr, pre.hn⟩ a w nx Q hs fun a' w' hs' => kk a' w' (sat_subO (hzz.rep _ _ _) hs')
end
theorem post_frz {P : Program} {gs : List (Nat × D)} {f : FuncId} {args : List AV} {r ry : AV} {hp1 : Heap} (zs : List (Nat × D)) (hh : HeapHas hp1 (lives zs))
  (hr : ∀ F μ w may v, Inv F μ may hp1 w → RV F μ w r v → RV (FF F μ zs) (fun _ => none) w ry v) (h : ACall P gs f args [] (fun r' hp' => r' = r ∧ hp' = hp1)) : ACall P gs f args [] (fun r' hp' => r' = ry ∧ hp' = []) :=
 fun F μ may w vs h1 h2 h3 h4 h5 => (h F μ may w vs h1 h2 h3 h4 h5).mono fun e w' ⟨v, r', hp', F', μ', h6, ⟨e1, e2⟩, hext, hF', hinv, hrv, hfr⟩ => by
  subst e1; subst e2
  have hz' : ∀ p ∈ zs, Heap.get hp' p.1 = some (.av (.d p.2)) := fun p hp => heapHas_iff.1 hh (p.1, .av (.d p.2)) (List.mem_map.2 ⟨p, hp, rfl⟩)
  have hi := inv_freeze hinv hz'
  have hmu0 : ∀ o, μ o = none := fun o => h1.dom o rfl
  refine ⟨v, ry, [], FF F' μ' zs, fun _ => none, h6, ⟨rfl, rfl⟩, ⟨fun b hb => .inl (hext.fro b hb), hext.kept, fun o p hp => (by rw [hmu0 o] at hp; cases hp)⟩, fun b hb => ?_,
   ⟨hi.fro, fun o c hc => (by cases hc), fun o o' b ba t ba' t' c c' h1 => (by cases h1), fun _ _ => rfl⟩, hr F' μ' w' may v hinv hrv, hfr⟩
  rcases hb with hb | ⟨p, hp, base, tot, hm⟩
  ·exact hF' b hb
  ·exact .inr (obj_at hinv (hz' p hp) hm).2.1
theorem acall_frz {P : Program} {gs : List (Nat × D)} {f : FuncId} {args : List AV} {r : AV} {y : D} {hp1 : Heap} (zs : List (Nat × D)) (hh : HeapHas hp1 (lives zs)) (hf : Frz zs r (.d y)) (h : ACall P gs f args [] (fun r' hp' => r' = r ∧ hp' = hp1)) :
  ACall P gs f args [] (fun r' hp' => r' = .d y ∧ hp' = []) := post_frz zs hh (fun F μ w may v hinv hrv => by
 have hz' : ∀ p ∈ zs, hp1.get p.1 = some (.av (.d p.2)) := fun p hp => heapHas_iff.1 hh (p.1, .av (.d p.2)) (List.mem_map.2 ⟨p, hp, rfl⟩)
 have key : ∀ {x y : AV}, Frz zs x y → RV F μ w x v → RV (FF F μ zs) μ w y v := fun h hr => by
  cases h with
  | same => exact rv_mono ext_freeze hr
  | nil => exact ⟨frz_ok hinv hz' .nil hr.1, hr.2⟩
  | slc h hl => exact ⟨frz_ok hinv hz' (.slc h hl) hr.1, hr.2⟩
  | all h hl => exact ⟨frz_ok hinv hz' (.all h hl) hr.1, hr.2⟩
  | whole h => exact ⟨frz_ok hinv hz' (.whole h) hr.1, hr.2⟩
  | st h => exact ⟨frz_ok hinv hz' (.st h) hr.1, hr.2⟩
 have := key hf hrv
 exact ⟨by have := this.1; simp only [RA] at this ⊢; exact this, this.2⟩) h
section
variable {P₀ : Program} {ns : Nat} {C : Ctx P₀ ns} {ops : Array Oper} {ty : Nat} {ps : String} {af : Array Edge} {gd : Option (Nat × Bool)} {dst : Option Nat}
theorem fact_drop {o : Oper} {er : List (Operand × AV)} {hr w1 w2 : List (Nat × HO)} {hn : List Nat} {d : Option (Nat × AV)} (h1 : ∀ p ∈ w1, p ∈ hr) (h2 : ∀ p ∈ w1, Heap.get w2 p.1 = none) (f : Fact C o { er := er, hr := hr, hn := hn, d := d, hw := w1 ++ w2 }) :
  Fact C o { er := er, hr := hr, hn := hn, d := d, hw := w2 } := fun s pre a w nx Q hs k => f s ⟨pre.er, pre.hr, pre.hn⟩ a w nx Q hs fun a' w' hs' => k a' w' (sat_same (s := ⟨d.toList ++ s.env, (w1 ++ w2) ++ s.hp, s.dfs⟩) (s' := ⟨d.toList ++ s.env, w2 ++ s.hp, s.dfs⟩) ⟨fun _ => rfl, fun q => by
 show Heap.get (w2 ++ s.hp) q = Heap.get (w1 ++ w2 ++ s.hp) q
 rw [List.append_assoc, heap_get_append w1]
 cases hg : Heap.get w1 q with
 | none => rfl
 | some c =>
  have hm : (q, c) ∈ w1 := by
   have : ∀ (l : Heap), l.get q = some c → (q, c) ∈ l := by
    intro l
    induction l with
    | nil => intro h; cases h
    | cons p l ih =>
     intro h
     obtain ⟨i, ci⟩ := p
     rw [heap_get_cons] at h
     by_cases e : i = q
     ·subst e; rw [if_pos rfl] at h; cases h; simp
     ·rw [if_neg e] at h; exact List.mem_cons_of_mem _ (ih h)
   exact this _ hg
  rw [heap_get_append, h2 _ hm]
  exact heapHas_iff.1 pre.hr _ (h1 _ hm), rfl⟩ hs')
variable {ce : Callee} {f : FuncId} {first caps xs args0 : List AV} {er0 : List (Operand × AV)} {as : Array Operand} {ats : Array TypeId} {r0 r : AV} {hp0 : Heap} {gs : List (Nat × D)} {hr : List (Nat × HO)} {hn : List Nat} {hw : Heap}
theorem newIds_self (g : Nat → Nat) (h : Heap) : newIds g h h = [] := by
 unfold newIds
 rw [List.map_eq_nil_iff, List.filter_eq_nil_iff]
 intro p hp
 have : h.has p.1 = true := by
  have : ∀ (l : Heap), p ∈ l → l.has p.1 = true := by
   intro l
   induction l with
   | nil => intro h; cases h
   | cons q l ih =>
    intro h
    simp only [Heap.has, Bool.or_eq_true]
    rcases List.mem_cons.1 h with rfl | h
    ·exact .inl (by simp)
    ·exact .inr (ih h)
  exact this h hp
 simp [this]
theorem f_callG0 (g : Nat → Nat) (zs : List (Nat × D)) (hgl : C.globs = gs) (hlt : dst.all (Nat.blt · C.n) = true) (hc : CalOk C ce f first caps er0) (hl : as.toList.length = xs.length) (hm : xs.all AV.mem = true)
  (hB : openB g args0 hp0 hp0 = true) (hlive : liveB hp0 = true) (hdis : disjB zs hr = true) (hz : FrzL zs (first ++ xs ++ caps) (rens g args0)) (hrr : r0.ren g = r) (hhr : renHeap g hp0 = hr) (hA : ACall P₀ gs f args0 hp0 (fun r' hp' => r' = r0 ∧ hp' = hp0)) :
  Fact C ⟨dst, .call ⟨ce, as, ats⟩, ty, ps, af, gd⟩ { er := er0 ++ as.toList.zip xs, hr := hr ++ lives zs, d := dst.map fun d => (d, r), hw := deads zs } := by
 subst hhr
 refine fact_drop (w1 := renHeap g hp0) (fun p hp => List.mem_append.2 (.inl hp)) (fun p hp => ?_) (f_callG g zs hgl hlt hc hl hm hB hlive hdis hz hrr rfl (newIds_self g hp0) rfl hA)
 simp only [disjB, List.all_eq_true] at hdis
 have : ∀ (zs : List (Nat × D)), (∀ q ∈ zs, (!Nat.beq q.1 p.1) = true) → Heap.get (deads zs) p.1 = none := by
  intro zs
  induction zs with
  | nil => intro _; rfl
  | cons q zs ih =>
   intro h
   show Heap.get ((q.1, .dead) :: deads zs) p.1 = none
   rw [heap_get_cons, if_neg, ih fun q' hq' => h q' (by simp [hq'])]
   intro e; have := h q (by simp); rw [e] at this; simp at this
 exact this zs (hdis p hp)
theorem f_callH0 (g : Nat → Nat) (zs : List (Nat × D)) (hgl : C.globs = gs) (hlt : dst.all (Nat.blt · C.n) = true) (hc : CalOk C ce f first caps er0) (hl : as.toList.length = xs.length) (hm : xs.all AV.mem = true)
  (hB : openB g args0 hp0 hp0 = true) (hlive : liveB hp0 = true) (hlive2 : liveB hr = true) (hdis : disjB zs hr = true) (hz : FrzL zs (first ++ xs ++ caps) (rens g args0)) (hrr : r0.ren g = r) (hhr : renHeap g hp0 = hr)
  (hr1 : NoF r) (hr2 : NoFh hr) (hA : ACall P₀ gs f args0 hp0 (fun r' hp' => r' = r0 ∧ hp' = hp0)) :
  Fact C ⟨dst, .call ⟨ce, as, ats⟩, ty, ps, af, gd⟩ { er := er0 ++ as.toList.zip xs, hr := hr ++ lives zs, d := dst.map fun d => (d, r), hw := [] } := by
 subst hhr
 refine fact_drop (w1 := renHeap g hp0) (fun p hp => List.mem_append.2 (.inl hp)) (fun p hp => rfl) ?_
 rw [List.append_nil]
 refine f_callH g zs hgl hlt hc hl hm hB hlive hlive2 hdis hz hrr rfl (newIds_self g hp0) rfl ?_ hr1 hr2 hA
 rw [List.all_eq_true]
 intro p hp
 have : ∀ (l : Heap), p ∈ l → l.has p.1 = true := by
  intro l
  induction l with
  | nil => intro h; cases h
  | cons q l ih =>
   intro h
   simp only [Heap.has, Bool.or_eq_true]
   rcases List.mem_cons.1 h with rfl | h
   ·exact .inl (by simp)
   ·exact .inr (ih h)
 exact this _ hp
end
end Bd
namespace Bd
open Go
section
variable {P₀ : Program} {ns : Nat} {C : Ctx P₀ ns} {ops : Array Oper} {os : List Oper} {e : Env} {h : Heap} {ds : List Nat} {Q : Exit → Act → World → Prop}
theorem R.again {L : Nat} {r : Loop} (hst : r.state = .ready) (hpd : r.pending = none) (k : R C ops os ⟨e, (L, .raw (.loop r)) :: h, ds⟩ Q) :
  R C ops os ⟨e, (L, .raw (.loop { r with state := if (none : Option Code).isNone then .ready else .done, pending := none })) :: h, ds⟩ Q := by
 have : { r with state := if (none : Option Code).isNone then .ready else .done, pending := none } = r := by
  obtain ⟨a, b, c, d, e, f, g⟩ := r
  simp only [Option.isNone_none, if_true] at *
  subst hst; subst hpd; rfl
 rw [this]; exact k
end
end Bd
