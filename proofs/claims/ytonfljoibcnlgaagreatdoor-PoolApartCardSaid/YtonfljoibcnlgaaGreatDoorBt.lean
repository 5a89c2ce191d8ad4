import Derived.Test.YtonfljoibcnlgaaGreatDoorBs
import Derived.Laws.AppendOwn
namespace Bd
open Go
def elB (P : Program) (t : TypeId) : Option (Nat × Nat) := match P.underlying t with
 | some (.slice e) => match P.info? e with
  | some i => match i.zero with
   | some z => if z.cells.size = i.size ∧ 0 < i.size then some (i.size, i.bytes) else none
   | none => none
  | none => none
 | _ => none
theorem elB_some {P : Program} {t : TypeId} {sz by_ : Nat} (h : elB P t = some (sz, by_)) : ∃ e i z, P.underlying t = some (.slice e) ∧ P.info? e = some i ∧ i.zero = some z ∧ i.size = sz ∧ i.bytes = by_ ∧ z.cells.size = sz ∧ 0 < sz := by
 unfold elB at h
 cases hu : P.underlying t with
 | none => simp [hu] at h
 | some td =>
  cases td with
  | slice e =>
   simp only [hu] at h
   cases hi : P.info? e with
   | none => simp [hi] at h
   | some i =>
    simp only [hi] at h
    cases hz : i.zero with
    | none => simp [hz] at h
    | some z =>
     simp only [hz] at h
     split at h
     ·next hc => simp only [Option.some.injEq, Prod.mk.injEq] at h; exact ⟨e, i, z, rfl, hi, hz, h.1, h.2, by rw [hc.1, h.1], by omega⟩
     ·cases h
  | _ => simp [hu] at h
section
variable {F : Nat → Prop} {w : World}
theorem sl_news {sz : Nat} {ys : List D} {v : Value} (h : Rep F w (.sl sz ys) v.cells.toList) (hg : aggV v = false) : ∃ ad cap news, v = .slice ad ys.length cap ∧ news.length = ys.length * sz ∧ RepEach F w sz ys news ∧ (ys ≠ [] → ∃ b off, ad = some ⟨b, off, none⟩ ∧
  ∀ j u, news[j]? = some u → w.cell? (Addr.add ⟨b, off, none⟩ j) = some u) := by
 simp only [Rep] at h
 obtain ⟨ad, cap, e1, e2, e3⟩ := h
 have hv : v = .slice ad ys.length cap := by
  have := cells_single (v := v) hg
  rw [e1] at this; simpa using this.symm
 rcases e3 with rfl | ⟨b, off, c, rfl, hF, hb, hl, hr⟩
 ·exact ⟨ad, cap, [], hv, by simp, by simp [RepEach], fun h => absurd rfl h⟩
 ·refine ⟨_, cap, (c.drop off).take (ys.length * sz), hv, ?_, hr, fun _ => ⟨b, off, rfl, fun j u hj => ?_⟩⟩
  ·rw [List.length_take, List.length_drop]; omega
  ·rw [addr_add, blk_cell hb]
   rw [List.getElem?_take] at hj
   split at hj
   ·rwa [List.getElem?_drop] at hj
   ·cases hj
end
section
variable {P : Program} {w : World} {t ty e : TypeId} {i : TypeInfo}
theorem run_append_zero {ad : Option Addr} {len cap c : Nat} {ad2 : Option Addr} (ht : P.underlying t = some (.slice e)) (hi : P.info? e = some i) (hc : len ≤ cap) :
  (Builtin.append_ #[t, t] ty #[.slice ad len cap, .slice ad2 0 c]).run P w = .ok (.slice ad len cap) w := by
 have hf : (Builtin.firstCells i.size 0 (.slice ad2 0 c)).run P w = .ok #[] w := by
  cases ad2 with
  | none => rfl
  | some a2 => simpa using run_firstCells_some (P := P) w i.size 0 a2 0 c [] (by simp) (by simp)
 cases ad with
 | none => simp [Builtin.append_, underlying, program, Sem.run, ht, Go.sizeOf, typeInfo, hi, Builtin.lenOf, hc, hf]
 | some a => simp [Builtin.append_, underlying, program, Sem.run, ht, Go.sizeOf, typeInfo, hi, Builtin.lenOf, hc, hf, storeCells]
theorem run_append_roomAt {e2 : TypeId} {b off sLen sCap m c : Nat} {cur : Array Value} {a : Addr} {news : List Value} (ht : P.underlying t = some (.slice e)) (hi : P.info? e = some i) (hg : w.heap[b]? = some (.cells cur e2 (0, 0)))
  (hl : news.length = m * i.size) (hnews : ∀ j u, news[j]? = some u → w.cell? (a.add j) = some u) (h1 : ∀ u ∈ news, leafV u = true)
  (hroom : sLen + m ≤ sCap) (hfit : off + sLen * i.size + news.length ≤ cur.size) :
  ∃ w', (Builtin.append_ #[t, t] ty #[.slice (some ⟨b, off, none⟩) sLen sCap, .slice (some a) m c]).run P w = .ok (.slice (some ⟨b, off, none⟩) (sLen + m) sCap) w' ∧
   w'.heap[b]? = some (.cells (cur.toList.take (off + sLen * i.size) ++ news ++ cur.toList.drop (off + sLen * i.size + news.length)).toArray e2 (0, 0)) ∧
   (∀ b', b' ≠ b → w'.heap[b']? = w.heap[b']?) ∧ w'.heap.size = w.heap.size ∧ w'.os = w.os ∧ w'.tape = w.tape ∧ w'.output = w.output := by
 have hf := run_firstCells_some (P := P) w i.size m a m c news hl hnews
 obtain ⟨w', g1, g2⟩ := run_storeCells (P := P) news (w := w) (b := b) (off := off + sLen * i.size) (i := 0) hg (by simpa using hfit) h1
 refine ⟨w', ?_, by simpa using g2⟩
 simp [Builtin.append_, underlying, program, Sem.run, ht, Go.sizeOf, typeInfo, hi, Builtin.lenOf, hroom, hf, addr_add, g1]
end
section
variable {P₀ : Program} {ns : Nat} {C : Ctx P₀ ns} {ops : Array Oper} {d ty : Nat} {ps : String} {af : Array Edge} {gd : Option (Nat × Bool)} {x y : Operand} {s : AS} {a : Act} {w : World} {F : Nat → Prop} {μ : Mu}
theorem sat_newNil {o sz : Nat} (h : SatW C s a w F μ) (hn : s.hp.get o = none) :
  SatW C ⟨s.env, (o, .av (.d (.arr sz 0 []))) :: s.hp, s.dfs⟩ a w F (fun i => if i = o then some .nil else μ i) ∧ Ext F μ w F (fun i => if i = o then some .nil else μ i) w := by
 have hmo : μ o = none := h.inv.dom o hn
 have hmu : ∀ i p, μ i = some p → (if i = o then some Place.nil else μ i) = some p := fun i p hp => by
  by_cases e' : i = o
  ·subst e'; rw [hmo] at hp; cases hp
  ·simp [e', hp]
 have hext : Ext F μ w F (fun i => if i = o then some .nil else μ i) w := ⟨fun _ h => h, Kept.refl _ _, hmu⟩
 refine ⟨⟨⟨h.inv.fro, fun i ci hi => ?_, fun i j bi ba ti ba' tj ci cj hi hj hni hnj hmi hmj => ?_, fun i hi => ?_⟩, envOk_mono hext h.env, h.size, dfsOk_mono hmu h.dfs, h.fr, h.f0, fun i p hp => hmu i p (h.base i p hp), globs_mono hext.fro hext.kept h.globs, h.fm⟩, hext⟩
 ·rw [heap_get_cons] at hi
  by_cases e' : o = i
  ·subst e'; simp at hi; subst hi
   exact .inl ⟨by simp, by simp [AV.size, D.size], by simp [RA, Rep, RepEach]⟩
  ·simp [e'] at hi
   have := h.inv.obj i ci hi
   have hio : i ≠ o := fun e'' => e' e''.symm
   cases ci with
   | av x =>
    rcases this with ⟨k1, k2, k3⟩ | ⟨b', ba, tt, el, cs', k1, k2, k3, k4, k5, k6, k7⟩
    ·exact .inl ⟨by simp [hio, k1], k2, ra_mono hext k3⟩
    ·exact .inr ⟨b', ba, tt, el, cs', by simp [hio, k1], k2, k3, k4, k5, k6, ra_mono hext k7⟩
   | raw ob => obtain ⟨b', ba, tt, k1, k2, k3, k4⟩ := this; exact ⟨b', ba, tt, by simp [hio, k1], k2, k3, k4⟩
   | dead => obtain ⟨p, hp⟩ := this; exact ⟨p, by simp [hio, hp]⟩
 ·rw [heap_get_cons] at hi hj
  have hio : i ≠ o := fun e' => by subst e'; simp at hmi
  have hjo : j ≠ o := fun e' => by subst e'; simp at hmj
  rw [if_neg (Ne.symm hio)] at hi
  rw [if_neg (Ne.symm hjo)] at hj
  simp [hio] at hmi
  simp [hjo] at hmj
  exact h.inv.apart i j bi ba ti ba' tj ci cj hi hj hni hnj hmi hmj
 ·rw [heap_get_cons] at hi
  by_cases e' : o = i
  ·rw [if_pos e'] at hi; cases hi
  ·rw [if_neg e'] at hi
   have hio : i ≠ o := fun e'' => e' e''.symm
   simp [hio, h.inv.dom i hi]
theorem sat_reseat {o o' off sz n : Nat} {xs : List D} {b base tot : Nat} (h : SatW C s a w F μ) (ho : s.hp.get o = some (.av (.d (.arr sz n xs)))) (hm : μ o = some (.at b base tot)) (hn : s.hp.get o' = none) (hle : off ≤ n) :
  SatW C ⟨s.env, (o', .av (.d (.arr sz (n - off) (xs.drop off)))) :: (o, .dead) :: s.hp, s.dfs⟩ a w F (fun i => if i = o' then some (.at b (base + off * sz) tot) else μ i) ∧
   Ext F μ w F (fun i => if i = o' then some (.at b (base + off * sz) tot) else μ i) w := by
 have hmo : μ o' = none := h.inv.dom o' hn
 have hmu : ∀ i p, μ i = some p → (if i = o' then some (Place.at b (base + off * sz) tot) else μ i) = some p := fun i p hp => by
  by_cases e' : i = o'
  ·subst e'; rw [hmo] at hp; cases hp
  ·simp [e', hp]
 have hext : Ext F μ w F (fun i => if i = o' then some (.at b (base + off * sz) tot) else μ i) w := ⟨fun _ h => h, Kept.refl _ _, hmu⟩
 rcases h.inv.obj o _ ho with ⟨k1, _⟩ | ⟨b1, ba1, tt1, el, cs, k1, k2, k3, k4, k5, k6, k7⟩
 ·rw [hm] at k1; cases k1
 rw [hm] at k1; cases k1
 simp only [RA, Rep, AV.size, D.size] at k6 k7
 obtain ⟨k7, k8⟩ := k7
 have hsz : off * sz + (n - off) * sz = n * sz := by rw [← Nat.add_mul]; congr 1; omega
 have hsplit := (repEach_split off k8).1
 rw [List.drop_take, List.drop_drop] at hsplit
 have hother : ∀ i ci, s.hp.get i = some ci → ci ≠ .dead → i ≠ o → ∀ ba tt, μ i ≠ some (.at b ba tt) := fun i ci hi hd hne ba tt hmi =>
  hne (h.inv.apart i o b ba tt base tot _ _ hi ho hd (by simp) hmi hm)
 refine ⟨⟨⟨h.inv.fro, fun i ci hi => ?_, fun i j bi ba ti ba' tj ci cj hi hj hni hnj hmi hmj => ?_, fun i hi => ?_⟩, envOk_mono hext h.env, h.size, dfsOk_mono hmu h.dfs, h.fr, h.f0, fun i p hp => hmu i p (h.base i p hp), globs_mono hext.fro hext.kept h.globs, h.fm⟩, hext⟩
 ·rw [heap_get_cons] at hi
  by_cases e' : o' = i
  ·subst e'; simp at hi; subst hi
   refine .inr ⟨b, base + off * sz, tot, el, cs, by simp, k2, k3, k4, k5, by simp only [AV.size, D.size]; omega, ?_⟩
   simp only [RA, Rep, AV.size, D.size]
   refine ⟨by rw [List.length_drop, k7], ?_⟩
   rwa [show n * sz - off * sz = (n - off) * sz from by omega] at hsplit
  ·rw [if_neg e', heap_get_cons] at hi
   have hio : i ≠ o' := fun e'' => e' e''.symm
   by_cases e2 : o = i
   ·subst e2; rw [if_pos rfl] at hi; cases hi
    refine ⟨.at b base tot, ?_⟩
    show (if _ then _ else _) = _
    rw [if_neg hio]; exact hm
   ·rw [if_neg e2] at hi
    have := h.inv.obj i ci hi
    cases ci with
    | av x =>
     rcases this with ⟨k1, k2, k3⟩ | ⟨b', ba, tt, el, cs', k1, k2, k3, k4, k5, k6, k7⟩
     ·exact .inl ⟨by simp [hio, k1], k2, ra_mono hext k3⟩
     ·exact .inr ⟨b', ba, tt, el, cs', by simp [hio, k1], k2, k3, k4, k5, k6, ra_mono hext k7⟩
    | raw ob => obtain ⟨b', ba, tt, k1, k2, k3, k4⟩ := this; exact ⟨b', ba, tt, by simp [hio, k1], k2, k3, k4⟩
    | dead => obtain ⟨p, hp⟩ := this; exact ⟨p, by simp [hio, hp]⟩
 ·have old : ∀ k ck, k ≠ o' → Heap.get ((o', HO.av (.d (.arr sz (n - off) (xs.drop off)))) :: (o, .dead) :: s.hp) k = some ck → ck ≠ .dead → k ≠ o ∧ s.hp.get k = some ck := fun k ck hk hg hd => by
   rw [heap_get_cons, if_neg (Ne.symm hk), heap_get_cons] at hg
   by_cases e2 : o = k
   ·rw [if_pos e2] at hg; cases hg; exact absurd rfl hd
   ·rw [if_neg e2] at hg; exact ⟨Ne.symm e2, hg⟩
  by_cases ei : i = o'
  ·by_cases ej : j = o'
   ·rw [ei, ej]
   ·obtain ⟨j1, j2⟩ := old j cj ej hj hnj
    rw [if_pos ei] at hmi; cases hmi
    rw [if_neg ej] at hmj
    exact absurd hmj (hother j cj j2 hnj j1 _ _)
  ·obtain ⟨i1, i2⟩ := old i ci ei hi hni
   rw [if_neg ei] at hmi
   by_cases ej : j = o'
   ·rw [if_pos ej] at hmj; cases hmj
    exact absurd hmi (hother i ci i2 hni i1 _ _)
   ·obtain ⟨j1, j2⟩ := old j cj ej hj hnj
    rw [if_neg ej] at hmj
    exact h.inv.apart i j bi ba ti ba' tj ci cj i2 j2 hni hnj hmi hmj
 ·rw [heap_get_cons] at hi
  by_cases e' : o' = i
  ·rw [if_pos e'] at hi; cases hi
  ·rw [if_neg e', heap_get_cons] at hi
   by_cases e2 : o = i
   ·rw [if_pos e2] at hi; cases hi
   ·rw [if_neg e2] at hi
    have hio : i ≠ o' := fun e'' => e' e''.symm
    simp [hio, h.inv.dom i hi]
theorem shadow_get (q : Nat × HO) (o : Nat) (c1 c2 : HO) (hp : Heap) (j : Nat) : Heap.get (q :: (o, c1) :: (o, c2) :: hp) j = Heap.get (q :: (o, c1) :: hp) j := by
 obtain ⟨q1, q2⟩ := q
 simp only [heap_get_cons]
 split
 ·rfl
 ·split <;> rfl
theorem kept_drew {G : Nat → Prop} : Kept G w w.drew := fun _ _ _ h => h
theorem ext_drew {G : Nat → Prop} : Ext G μ w G μ w.drew := ⟨fun _ h => h, kept_drew, fun _ _ h => h⟩
theorem satW_drew (h : SatW C s a w F μ) : SatW C s a w.drew F μ :=
 ⟨⟨h.inv.fro, fun o c hc => by
   have := h.inv.obj o c hc
   cases c with
   | av x =>
    rcases this with ⟨k1, k2, k3⟩ | ⟨b', ba, tt, el, cs', k1, k2, k3, k4, k5, k6, k7⟩
    ·exact .inl ⟨k1, k2, ra_mono ext_drew k3⟩
    ·exact .inr ⟨b', ba, tt, el, cs', k1, k2, k3, k4, k5, k6, ra_mono ext_drew k7⟩
   | raw ob => exact this
   | dead => exact this, h.inv.apart, h.inv.dom⟩, envOk_mono ext_drew h.env, h.size, h.dfs, ⟨h.fr.os, h.fr.tape, h.fr.output, h.fr.size, h.fr.block⟩, h.f0, h.base, globs_mono (fun _ h => h) kept_drew h.globs, h.fm⟩
def Src (C : Ctx P₀ ns) (y : Operand) (sz : Nat) (ys : List D) (er : List (Operand × AV)) (hr : List (Nat × HO)) : Prop :=
 ∀ s a w F μ, SatW C s a w F μ → EnvHas C s.env er → HeapHas s.hp hr → ∃ ad cap news, a.eval y = .slice ad ys.length cap ∧ news.length = ys.length * sz ∧ RepEach F w sz ys news ∧ (ys ≠ [] → ∃ b off, ad = some ⟨b, off, none⟩ ∧
  ∀ j u, news[j]? = some u → w.cell? (Addr.add ⟨b, off, none⟩ j) = some u)
theorem srcD {sz : Nat} {ys : List D} : Src C y sz ys [(y, .d (.sl sz ys))] [] := fun s a w F μ hs he _ => by
 cases he with
 | cons hy _ =>
  obtain ⟨hy1, hy2⟩ := evalE_ok hs hy
  simp only [RA] at hy1
  exact sl_news hy1 hy2
theorem srcO {o off len sz n : Nat} {xs ys : List D} (hl : off + len ≤ xs.length) (hy : (xs.drop off).take len = ys) : Src C y sz ys [(y, .slc o off len sz)] [(o, .av (.d (.arr sz n xs)))] := fun s a w F μ hs he hh => by
 subst hy
 cases he with
 | cons hx _ => cases hh with
  | cons ho _ =>
   obtain ⟨hx1, hx2⟩ := evalE_ok hs hx
   have hxc := cells_single (v := a.eval y) hx2
   have hll : ((xs.drop off).take len).length = len := by rw [List.length_take, List.length_drop]; omega
   rw [hll]
   simp only [RA] at hx1
   rcases hx1 with ⟨_, rfl, ad, hxv⟩ | ⟨b, base, tot, cap, hmo, hcap, htot, hxv⟩
   ·exact ⟨ad, 0, [], by rw [hxv] at hxc; simpa using hxc.symm, by simp, by simp [RepEach], by simp⟩
   ·obtain ⟨_, _, c, h1, h2, h3, h4⟩ := obj_at hs.inv ho hmo
    simp only [Rep, D.size] at h3 h4
    obtain ⟨h5, h6⟩ := h4
    have hoff : (off + len) * sz ≤ n * sz := Nat.mul_le_mul_right _ (by omega)
    have h7 := (repEach_split len (repEach_split off h6).1).2
    rw [List.drop_take, List.take_take, List.drop_drop, Nat.min_eq_left (by rw [Nat.add_mul] at hoff; omega)] at h7
    refine ⟨_, cap, _, by rw [hxv] at hxc; simpa using hxc.symm, by rw [repEach_length h7, hll], h7, fun _ => ⟨b, base + off * sz, rfl, fun j u hj => ?_⟩⟩
    rw [addr_add, blk_cell h1]
    rw [List.getElem?_take] at hj
    split at hj
    ·rwa [List.getElem?_drop] at hj
    ·cases hj
theorem f_appendC {er2 : List (Operand × AV)} {hr2 : List (Nat × HO)} {t : TypeId} {o off len sz n bts : Nat} {xs ys zs : List D} (o' : Nat) (hlt : Nat.blt d C.n = true) (ht : elB C.P t = some (sz, bts)) (hxn : xs.length = n) (hend : off + len = n) (hzs : xs.drop off ++ ys = zs) {m : Nat} (hm : zs.length = m) (hby : m * bts ≤ 140737488355328) (h63 : m ≤ maxLen) (hsrc : Src C y sz ys er2 hr2) :
  Fact C ⟨some d, .call ⟨.builtin .append, #[x, y], #[t, t]⟩, ty, ps, af, gd⟩
   { er := (x, .slc o off len sz) :: er2, hr := (o, .av (.d (.arr sz n xs))) :: hr2, hn := [o'], d := some (d, .slc o' 0 m sz), hw := [(o', .av (.d (.arr sz m zs))), (o, .dead)] } := by
 obtain ⟨e, i, z, hu, hi, hz, hisz, hibt, hzsz, hpos⟩ := elB_some ht
 subst hisz; subst hibt; subst hzs
 have hlm : len + ys.length = m := by rw [← hm, List.length_append, List.length_drop]; omega
 intro s hpre a w nx Q hs k
 obtain ⟨F, μ, hs⟩ := hs
 cases hpre.er with
 | cons hx her => cases hpre.hr with
   | cons ho hho => cases hpre.hn with
    | cons hn _ =>
     obtain ⟨hx1, hx2⟩ := evalE_ok hs hx
     simp only [RA] at hx1
     have hxc := cells_single (v := a.eval x) hx2
     obtain ⟨ad, cap2, news, hyv, hnl, hnr, hna⟩ := hsrc s a w F μ hs her hho
     have fin : ∀ v w' F' μ', (Builtin.append_ #[t, t] ty #[a.eval x, a.eval y]).run C.P w = .ok v w' →
       SatW C ⟨s.env, (o', .av (.d (.arr i.size m (xs.drop off ++ ys)))) :: (o, .dead) :: s.hp, s.dfs⟩ a w' F' μ' → RV F' μ' w' (.slc o' 0 m i.size) v →
       (⟨some d, .call ⟨.builtin .append, #[x, y], #[t, t]⟩, ty, ps, af, gd⟩ : Oper).wpIn C.fence 0 C.P a w nx Q := fun v w' F' μ' hrun hsat hrv =>
      wpIn_value (by intro c h; cases h) (by simp [execOp, resolve, Deferred.ofValue, invoke, builtin, hrun]) (k _ _ ⟨F', μ', sat_put hsat (by simpa [Nat.blt_eq] using hlt) hrv⟩)
     have grow : ∀ (v0 : Value) (cap0 : Nat) (olds : List Value), a.eval x = v0 → RepEach F w i.size (xs.drop off) olds → 0 < ys.length → cap0 < len + ys.length →
       (∀ b2 off2, ad = some ⟨b2, off2, none⟩ → (∀ j u, news[j]? = some u → w.cell? (Addr.add ⟨b2, off2, none⟩ j) = some u) →
        (Builtin.append_ #[t, t] ty #[v0, .slice ad ys.length cap2]).run C.P w = .ok (.slice (some ⟨w.heap.size, 0, none⟩) (len + ys.length) (grownCap w (len + ys.length) cap0 e))
         (w.drew.alloc (.cells (olds.toArray ++ news.toArray ++ Builtin.zeroCells z.cells (grownCap w (len + ys.length) cap0 e - (len + ys.length))) e))) →
       (⟨some d, .call ⟨.builtin .append, #[x, y], #[t, t]⟩, ty, ps, af, gd⟩ : Oper).wpIn C.fence 0 C.P a w nx Q := fun v0 cap0 olds hv0 hol hyp hcap hrun => by
      obtain ⟨b2, off2, rfl, hcell⟩ := hna (by intro e; simp [e] at hyp)
      have hrun := hrun b2 off2 rfl hcell
      have hge := grownCap_ge w (len + ys.length) cap0 e
      have holl : olds.length = len * i.size := by rw [repEach_length hol, List.length_drop]; congr 1; omega
      have hs1 := sat_deads (zs := [(o, .arr i.size n xs)]) hs (by intro p hp; simp at hp; subst hp; exact ho)
      have hs2 := satW_drew hs1
      have hoo : Heap.get (deads [(o, D.arr i.size n xs)] ++ s.hp) o' = none := by
       rw [deads_get, if_neg, hn]
       rintro ⟨p, hp, e3⟩; simp at hp; subst hp; simp at e3; subst e3; rw [hn] at ho; cases ho
      have hsize : (olds.toArray ++ news.toArray ++ Builtin.zeroCells z.cells (grownCap w (len + ys.length) cap0 e - (len + ys.length))).size = grownCap w (len + ys.length) cap0 e * i.size := by
       simp only [Array.size_append, List.size_toArray, size_zeroCells, hzsz, holl, hnl, ← Nat.add_mul]
       congr 1; omega
      have hle : m * i.size ≤ grownCap w (len + ys.length) cap0 e * i.size := Nat.mul_le_mul_right _ (by omega)
      obtain ⟨h3, h4⟩ := sat_new (e := e) (cs := olds.toArray ++ news.toArray ++ Builtin.zeroCells z.cells (grownCap w (len + ys.length) cap0 e - (len + ys.length))) (c := .d (.arr i.size m (xs.drop off ++ ys))) hs2 hoo
       (by simp only [AV.size, D.size]; rw [hsize]; exact hle) (by
        simp only [RA, Rep, AV.size, D.size]
        refine ⟨hm, ?_⟩
        have e3 : (olds.toArray ++ news.toArray ++ Builtin.zeroCells z.cells (grownCap w (len + ys.length) cap0 e - (len + ys.length))).toList.take (m * i.size) = olds ++ news := by
         simp only [Array.toList_append]
         rw [List.take_append_of_le_length (by simp [holl, hnl, ← Nat.add_mul, hlm]), List.take_of_length_le (by simp [holl, hnl, ← Nat.add_mul, hlm])]
        rw [e3]
        exact repEach_append (repEach_mono (fun _ h => Or.inl h) kept_drew hol) (repEach_mono (fun _ h => Or.inl h) kept_drew hnr))
      refine fin _ _ _ _ (by rw [hv0, hyv]; exact hrun) h3 ⟨?_, rfl⟩
      simp only [RA]
      refine .inr ⟨w.heap.size, 0, _, grownCap w (len + ys.length) cap0 e, by simp only [if_true]; rfl, by omega, by rw [hsize]; simp, by simp [Value.cells, hlm]⟩
     have hoff : off ≤ n := by omega
     rcases hx1 with ⟨hmo, hl0, ad0, hxv⟩ | ⟨b, base, tot, cap, hmo, hcap, htot, hxv⟩
     ·
      have hv0 : a.eval x = .slice ad0 0 0 := by rw [hxv] at hxc; simpa using hxc.symm
      have hnil : xs.drop off = [] := List.eq_nil_of_length_eq_zero (by rw [List.length_drop]; omega)
      subst hl0
      by_cases hy0 : ys.length = 0
      ·have hys : ys = [] := List.eq_nil_of_length_eq_zero hy0
       subst hys
       have hm0 : m = 0 := by rw [← hm, hnil]; rfl
       subst hm0
       have hs1 := sat_deads (zs := [(o, .arr i.size n xs)]) hs (by intro p hp; simp at hp; subst hp; exact ho)
       have hoo : Heap.get (deads [(o, D.arr i.size n xs)] ++ s.hp) o' = none := by
        rw [deads_get, if_neg, hn]
        rintro ⟨p, hp, e3⟩; simp at hp; subst hp; simp at e3; subst e3; rw [hn] at ho; cases ho
       obtain ⟨h3, _⟩ := sat_newNil (sz := i.size) hs1 hoo
       have hrun := run_append_zero (P := C.P) (w := w) (t := t) (ty := ty) (ad := ad0) (len := 0) (cap := 0) (c := cap2) (ad2 := ad) hu hi (Nat.le_refl 0)
       refine fin _ _ _ _ (by rw [hv0, hyv]; exact hrun) (by rw [hnil]; exact h3) ⟨?_, rfl⟩
       simp only [RA]
       exact .inl ⟨⟨_, by simp only [if_true]; rfl⟩, trivial, ad0, rfl⟩
      ·refine grow _ 0 [] hv0 (by rw [hnil]; simp [RepEach]) (by omega) (by omega) fun b2 off2 e3 hcell => ?_
       subst e3
       cases ad0 with
       | none =>
        have := run_append_nil (P := C.P) w t ty e i z hu hi hz ⟨b2, off2, none⟩ ys.length cap2 news hnl hcell (by omega) (by simp only [maxLen] at h63; omega) (by have := hby; rw [← hlm, Nat.zero_add] at this; omega)
        simpa using this
       | some a0 =>
        have := run_append_grow (P := C.P) w t ty e i z hu hi hz a0 0 0 [] (by simp) (by simp) ⟨b2, off2, none⟩ ys.length cap2 news hnl hcell (by omega) (by simp only [maxLen] at h63; omega) (growslice_fits (by omega) (by rw [hlm]; exact hby))
        simpa using this
     ·have hv0 : a.eval x = .slice (some ⟨b, base + off * i.size, none⟩) len cap := by rw [hxv] at hxc; simpa using hxc.symm
      by_cases hy0 : ys.length = 0
      ·have hys : ys = [] := List.eq_nil_of_length_eq_zero hy0
       subst hys
       obtain ⟨h3, _⟩ := sat_reseat hs ho hmo hn hoff
       have hrun := run_append_zero (P := C.P) (w := w) (t := t) (ty := ty) (ad := some ⟨b, base + off * i.size, none⟩) (len := len) (cap := cap) (c := cap2) (ad2 := ad) hu hi hcap
       have hmn : n - off = m := by simp at hlm; omega
       refine fin _ _ _ _ (by rw [hv0, hyv]; exact hrun) (by rw [List.append_nil, ← hmn]; exact h3) ⟨?_, rfl⟩
       simp only [RA]
       refine .inr ⟨b, base + off * i.size, tot, cap, by simp only [if_true], by simp at hlm; omega, ?_, ?_⟩
       ·rw [Nat.zero_add, Nat.add_assoc, ← Nat.add_mul]; exact htot
       ·simp at hlm; simp [Value.cells, hlm]
      ·rcases hs.inv.obj o _ ho with ⟨k1, _⟩ | ⟨b1, ba1, tt1, el, cs, k1, k2, k3, k4, k5, k6, k7⟩
       ·rw [hmo] at k1; cases k1
       rw [hmo] at k1; cases k1
       simp only [RA, Rep, AV.size, D.size] at k6 k7
       obtain ⟨k7, k8⟩ := k7
       have hblk : blk w b = some cs.toList := by simp [blk, k4]
       have hsz : off * i.size + len * i.size = n * i.size := by rw [← Nat.add_mul]; congr 1
       have hsplit := (repEach_split off k8).1
       rw [List.drop_take, List.drop_drop, show n * i.size - off * i.size = len * i.size from by omega] at hsplit
       obtain ⟨b2, off2, rfl, hcell⟩ := hna (by intro e; simp [e] at hy0)
       by_cases hroom : len + ys.length ≤ cap
       ·have hcc : (len + ys.length) * i.size ≤ cap * i.size := Nat.mul_le_mul_right _ hroom
        rw [Nat.add_mul] at hcc htot
        have hlf : ∀ u ∈ news, leafV u = true := repEach_leaf hnr
        obtain ⟨w', hrun, g1, g2, g3, g4, g5, g6⟩ := run_append_roomAt (P := C.P) (ty := ty) (b := b) (off := base + off * i.size) (sCap := cap) (c := cap2) hu hi k4 hnl hcell hlf hroom (by rw [hnl]; omega)
        have hmn : n + ys.length - off = m := by omega
        have h1 := sat_turn (c' := .d (.arr i.size (n + ys.length) (xs ++ ys))) hs ho hmo k2 k3 g1 (by simp [hnl]; omega) (by simp only [AV.size, D.size, Nat.add_mul]; omega) (fun F' μ' hext => by
         simp only [RA, Rep, AV.size, D.size]
         refine ⟨by simp [k7], ?_⟩
         have e5 : (((cs.toList.take (base + off * i.size + len * i.size) ++ news ++ cs.toList.drop (base + off * i.size + len * i.size + news.length)).drop base).take ((n + ys.length) * i.size)) = (cs.toList.drop base).take (n * i.size) ++ news := by
          rw [show base + off * i.size + len * i.size = base + n * i.size from by omega, List.append_assoc, List.drop_append_of_le_length (by simp; omega), List.drop_take, show base + n * i.size - base = n * i.size from by omega, ← List.append_assoc,
           List.take_append_of_le_length (by simp [hnl, Nat.add_mul]; omega), List.take_of_length_le (by simp [hnl, Nat.add_mul]; omega)]
         rw [e5]
         exact repEach_append (repEach_mono hext.fro hext.kept k8) (repEach_mono hext.fro hext.kept hnr)) g2 g3 g4 g5 g6
        obtain ⟨h3, _⟩ := sat_reseat (o' := o') (off := off) h1 (by rw [heap_get_cons, if_pos rfl]) hmo (by rw [heap_get_cons, if_neg (fun e => by subst e; rw [hn] at ho; cases ho)]; exact hn) (by omega)
        have h4 : SatW C ⟨s.env, (o', .av (.d (.arr i.size m (xs.drop off ++ ys)))) :: (o, .dead) :: s.hp, s.dfs⟩ a w' F (fun j => if j = o' then some (.at b (base + off * i.size) tot) else μ j) := by
         rw [hmn, List.drop_append_of_le_length (by omega)] at h3
         refine ⟨⟨h3.inv.fro, fun j c hj => ?_, fun j1 j2 p1 p2 p3 p4 p5 c1 c2 q1 q2 q3 q4 q5 q6 => ?_, fun j hj => ?_⟩, h3.env, h3.size, h3.dfs, h3.fr, h3.f0, h3.base, h3.globs, h3.fm⟩
         ·exact h3.inv.obj j c ((shadow_get _ _ _ _ _ _).trans hj)
         ·exact h3.inv.apart j1 j2 p1 p2 p3 p4 p5 c1 c2 ((shadow_get _ _ _ _ _ _).trans q1) ((shadow_get _ _ _ _ _ _).trans q2) q3 q4 q5 q6
         ·exact h3.inv.dom j ((shadow_get _ _ _ _ _ _).trans hj)
        refine fin _ _ _ _ (by rw [hv0, hyv]; exact hrun) h4 ⟨?_, rfl⟩
        simp only [RA]
        refine .inr ⟨b, base + off * i.size, tot, cap, by simp only [if_true], by omega, ?_, ?_⟩
        ·rw [Nat.zero_add]; omega
        ·simp [Value.cells, hlm]
       ·refine grow _ cap _ hv0 hsplit (by omega) (by omega) fun b3 off3 e3 hcell3 => ?_
        cases e3
        refine run_append_grow (P := C.P) w t ty e i z hu hi hz ⟨b, base + off * i.size, none⟩ len cap _ (by rw [repEach_length hsplit, List.length_drop]; congr 1; omega) (fun j u hj => ?_) ⟨b2, off2, none⟩ ys.length cap2 news hnl hcell (by omega)
         (by simp only [maxLen] at h63; omega) (growslice_fits (by omega) (by rw [hlm]; exact hby))
        rw [addr_add, blk_cell hblk]
        rw [List.getElem?_take] at hj
        split at hj
        ·rwa [List.getElem?_drop] at hj
        ·cases hj
end
end Bd
