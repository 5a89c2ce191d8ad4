import Derived.Test.YtonfljoibcnlgaaGreatDoorBg
namespace Bd
open Go
theorem blk_of {w : World} {b : Nat} {c : Array Value} {e : TypeId} {f : Nat × Nat} (h : w.heap[b]? = some (.cells c e f)) : blk w b = some c.toList := by simp [blk, h]
theorem blk_lt {w : World} {b : Nat} {c : List Value} (h : blk w b = some c) : b < w.heap.size := by
 unfold blk at h
 cases ho : w.heap[b]? with
 | none => simp [ho] at h
 | some o => exact (Array.getElem?_eq_some_iff.1 ho).1
theorem blk_same {w w' : World} {b : Nat} (h : w'.heap[b]? = w.heap[b]?) : blk w' b = blk w b := by unfold blk; rw [h]
theorem sat_turn {P₀ : Program} {ns : Nat} {C : Ctx P₀ ns} {s : AS} {a : Act} {w w' : World} {F μ} {o : Nat} {c c' : AV} {b base tot : Nat} {e : TypeId} {cs' : Array Value} (h : SatW C s a w F μ) (hc : s.hp.get o = some (.av c))
  (hm : μ o = some (.at b base tot)) (hF : ¬ F b) (hmay : C.may b) (hb : w'.heap[b]? = some (.cells cs' e (0, 0))) (ht : cs'.size = tot) (hs : base + c'.size ≤ tot)
  (hr : ∀ F' μ', Ext F μ w F' μ' w' → RA F' μ' w' c' ((cs'.toList.drop base).take c'.size)) (ho : ∀ b', b' ≠ b → w'.heap[b']? = w.heap[b']?)
  (hz : w'.heap.size = w.heap.size) (h1 : w'.os = w.os) (h2 : w'.tape = w.tape) (h3 : w'.output = w.output) : SatW C ⟨s.env, (o, .av c') :: s.hp, s.dfs⟩ a w' F μ := by
 have hext : Ext F μ w F μ w' := ⟨fun _ h => h, fun b' c hb' hc => by rw [blk_same (ho b' fun e => hF (e ▸ hb'))]; exact hc, fun _ _ h => h⟩
 refine ⟨⟨fun b' hb' => ?_, fun i ci hi => ?_, fun i j bi ba ti ba' tj ci cj hi hj hni hnj hmi hmj => ?_, fun i hi => ?_⟩, envOk_mono hext h.env, h.size, h.dfs, h.fr.trans ⟨h1, h2, h3, by omega, fun b' hb' => ho b' fun e => hb' (e ▸ hmay)⟩, h.f0, h.base, globs_mono hext.fro hext.kept h.globs, h.fm⟩
 ·obtain ⟨c, hc⟩ := h.inv.fro b' hb'; exact ⟨c, hext.kept _ _ hb' hc⟩
 ·rw [heap_get_cons] at hi
  by_cases e' : o = i
  ·subst e'; simp at hi; subst hi
   exact .inr ⟨b, base, tot, e, cs', hm, hF, hmay, hb, ht, hs, hr F μ hext⟩
  ·simp [e'] at hi
   have := h.inv.obj i ci hi
   have hne : ∀ b' ba tt, ci ≠ .dead → μ i = some (.at b' ba tt) → b' ≠ b := fun b' ba tt hd hmi eb => by
    subst eb
    exact e' (h.inv.apart o i b' base tot ba tt (.av c) ci hc hi (by simp) hd hm hmi)
   cases ci with
   | av x =>
    rcases this with ⟨k1, k2, k3⟩ | ⟨b', ba, tt, el, cs, k1, k2, k3, k4, k5, k6, k7⟩
    ·exact .inl ⟨k1, k2, ra_mono hext k3⟩
    ·exact .inr ⟨b', ba, tt, el, cs, k1, k2, k3, by rw [ho b' (hne _ _ _ (by simp) k1)]; exact k4, k5, k6, ra_mono hext k7⟩
   | raw ob => obtain ⟨b', ba, tt, k1, k2, k3, k4⟩ := this; exact ⟨b', ba, tt, k1, k2, k3, by rw [ho b' (hne _ _ _ (by simp) k1)]; exact k4⟩
   | dead => exact this
 ·have conv : ∀ k ck, Heap.get ((o, HO.av c') :: s.hp) k = some ck → ck ≠ .dead → ∃ ck', s.hp.get k = some ck' ∧ ck' ≠ .dead := fun k ck hk hn => by
   rw [heap_get_cons] at hk
   by_cases e' : o = k
   ·subst e'; exact ⟨_, hc, by simp⟩
   ·simp [e'] at hk; exact ⟨ck, hk, hn⟩
  obtain ⟨ci', hi', hni'⟩ := conv i ci hi hni
  obtain ⟨cj', hj', hnj'⟩ := conv j cj hj hnj
  exact h.inv.apart i j bi ba ti ba' tj ci' cj' hi' hj' hni' hnj' hmi hmj
 ·rw [heap_get_cons] at hi
  by_cases e' : o = i
  ·simp [e'] at hi
  ·simp [e'] at hi; exact h.inv.dom i hi
theorem sat_new {P₀ : Program} {ns : Nat} {C : Ctx P₀ ns} {s : AS} {a : Act} {w : World} {F μ} {o : Nat} {c : AV} {e : TypeId} {cs : Array Value} (h : SatW C s a w F μ) (hn : s.hp.get o = none)
  (hs : c.size ≤ cs.size) (hr : RA F μ w c (cs.toList.take c.size)) :
  SatW C ⟨s.env, (o, .av c) :: s.hp, s.dfs⟩ a { w with heap := w.heap.push (.cells cs e) } F (fun i => if i = o then some (.at w.heap.size 0 cs.size) else μ i) ∧
   Ext F μ w F (fun i => if i = o then some (.at w.heap.size 0 cs.size) else μ i) { w with heap := w.heap.push (.cells cs e) } := by
 have hmo : μ o = none := h.inv.dom o hn
 have hold : ∀ b, b < w.heap.size → (w.heap.push (.cells cs e))[b]? = w.heap[b]? := fun b hb => by rw [Array.getElem?_push, if_neg (by omega)]
 have hnew : (w.heap.push (.cells cs e))[w.heap.size]? = some (.cells cs e (0, 0)) := by simp
 have hmu : ∀ i p, μ i = some p → (if i = o then some (Place.at w.heap.size 0 cs.size) else μ i) = some p := fun i p hp => by
  by_cases e' : i = o
  ·subst e'; rw [hmo] at hp; cases hp
  ·simp [e', hp]
 have hext : Ext F μ w F (fun i => if i = o then some (.at w.heap.size 0 cs.size) else μ i) { w with heap := w.heap.push (.cells cs e) } :=
  ⟨fun _ h => h, fun b c hb hc => by rw [blk_same (w := w) (hold b (blk_lt hc))]; exact hc, hmu⟩
 have hlt : ∀ b, F b → b < w.heap.size := fun b hb => by obtain ⟨c, hc⟩ := h.inv.fro b hb; exact blk_lt hc
 have hobj : ∀ i ci, s.hp.get i = some ci → i ≠ o := fun i ci hi e' => by subst e'; rw [hn] at hi; cases hi
 refine ⟨⟨⟨fun b hb => ?_, fun i ci hi => ?_, fun i j bi ba ti ba' tj ci cj hi hj hni hnj hmi hmj => ?_, fun i hi => ?_⟩, envOk_mono hext h.env, h.size, dfsOk_mono hmu h.dfs,
  h.fr.trans ⟨rfl, rfl, rfl, by simp, fun b hb => hold b ?_⟩, h.f0, fun i p hp => hmu i p (h.base i p hp), globs_mono hext.fro hext.kept h.globs, h.fm⟩, hext⟩
 ·obtain ⟨c, hc⟩ := h.inv.fro b hb; exact ⟨c, hext.kept _ _ hb hc⟩
 ·rw [heap_get_cons] at hi
  by_cases e' : o = i
  ·subst e'; simp at hi; subst hi
   refine .inr ⟨w.heap.size, 0, cs.size, e, cs, by simp, fun hF => Nat.lt_irrefl _ (hlt _ hF), C.new _ h.fr.size, hnew, rfl, by simpa using hs, ?_⟩
   simpa using ra_mono hext hr
  ·simp [e'] at hi
   have := h.inv.obj i ci hi
   have hio : i ≠ o := fun e'' => e' e''.symm
   cases ci with
   | av x =>
    rcases this with ⟨k1, k2, k3⟩ | ⟨b', ba, tt, el, cs', k1, k2, k3, k4, k5, k6, k7⟩
    ·exact .inl ⟨by simp [hio, k1], k2, ra_mono hext k3⟩
    ·exact .inr ⟨b', ba, tt, el, cs', by simp [hio, k1], k2, k3, by rw [← k4]; exact hold b' (Array.getElem?_eq_some_iff.1 k4).1, k5, k6, ra_mono hext k7⟩
   | raw ob => obtain ⟨b', ba, tt, k1, k2, k3, k4⟩ := this; exact ⟨b', ba, tt, by simp [hio, k1], k2, k3, by rw [← k4]; exact hold b' (Array.getElem?_eq_some_iff.1 k4).1⟩
   | dead => obtain ⟨p, hp⟩ := this; exact ⟨p, by simp [hio, hp]⟩
 ·have place : ∀ k ck b' ba tt, s.hp.get k = some ck → ck ≠ .dead → μ k = some (.at b' ba tt) → b' < w.heap.size := fun k ck b' ba tt hk hd hm => by
   have := h.inv.obj k ck hk
   cases ck with
   | av x =>
    rcases this with ⟨k1, _⟩ | ⟨b1, ba1, tt1, el, cs', k1, k2, k3, k4, _⟩
    ·rw [hm] at k1; cases k1
    ·rw [hm] at k1; cases k1; exact (Array.getElem?_eq_some_iff.1 k4).1
   | raw ob => obtain ⟨b1, ba1, tt1, k1, k2, k3, k4⟩ := this; rw [hm] at k1; cases k1; exact (Array.getElem?_eq_some_iff.1 k4).1
   | dead => exact absurd rfl hd
  rw [heap_get_cons] at hi hj
  by_cases ei : o = i
  ·by_cases ej : o = j
   ·exact ei.symm.trans ej
   ·simp [ej] at hj
    subst ei
    have hjo : j ≠ o := fun e' => ej e'.symm
    simp at hmi
    simp [hjo] at hmj
    have := place j cj bi ba' tj hj hnj hmj
    omega
  ·simp [ei] at hi
   have hio : i ≠ o := fun e' => ei e'.symm
   simp [hio] at hmi
   by_cases ej : o = j
   ·subst ej
    simp at hmj
    have := place i ci bi ba ti hi hni hmi
    omega
   ·simp [ej] at hj
    have hjo : j ≠ o := fun e' => ej e'.symm
    simp [hjo] at hmj
    exact h.inv.apart i j bi ba ti ba' tj ci cj hi hj hni hnj hmi hmj
 ·rw [heap_get_cons] at hi
  by_cases e' : o = i
  ·simp [e'] at hi
  ·simp [e'] at hi
   have : i ≠ o := fun e'' => e' e''.symm
   simp [this, h.inv.dom i hi]
 ·by_cases hlt : b < w.heap.size
  ·exact hlt
  ·exact absurd (C.new b (Nat.le_trans h.fr.size (by omega))) hb
section
variable {P₀ : Program} {ns : Nat} {C : Ctx P₀ ns} {ops : Array Oper} {d ty : Nat} {ps : String} {af : Array Edge} {gd : Option (Nat × Bool)} {x y : Operand} {u v : AV}
theorem rv_ptr {F μ w o off p v} (h : RV F μ w (.ptr o off p) v) : ∃ b base tot, μ o = some (.at b base tot) ∧ v = .pointer (some ⟨b, base + off, none⟩) := by
 obtain ⟨h1, h2⟩ := h
 simp only [RA] at h1
 obtain ⟨b, base, tot, hm, hc⟩ := h1
 refine ⟨b, base, tot, hm, ?_⟩
 have := cells_single (v := v) h2
 rw [hc] at this
 simpa using this.symm
theorem rv_pref {F μ w} {x : D} {v} (h : RV F μ w (.pref x) v) : ∃ b off c, v = .pointer (some ⟨b, off, none⟩) ∧ F b ∧ blk w b = some c ∧ off + x.size ≤ c.length ∧ Rep F w x ((c.drop off).take x.size) := by
 obtain ⟨h1, h2⟩ := h
 simp only [RA] at h1
 obtain ⟨b, off, c, hc, k⟩ := h1
 refine ⟨b, off, c, ?_, k⟩
 have := cells_single (v := v) h2
 rw [hc] at this
 simpa using this.symm
def AV.mem : AV → Bool
 | .res _ => false
 | .junk => false
 | _ => true
theorem rv_mem {F μ w} {x : AV} {v : Value} (h : RV F μ w x v) (hx : x.mem = true) : RA F μ w x v.cells.toList ∧ aggV v = x.isAgg := by
 cases x with
 | res xs => simp [AV.mem] at hx
 | junk => simp [AV.mem] at hx
 | _ => exact h
theorem f_load {t : TypeId} {o off n : Nat} {p : List Nat} {c z : AV} (hlt : Nat.blt d C.n = true) (ha : c.at p = some (off, z)) (ht : tyB C.P t = some (z.isAgg, z.size)) (hm : z.mem = true) :
  Fact C ⟨some d, .load t x, ty, ps, af, gd⟩ { er := [(x, .ptr o off p)], hr := [(o, .av c)], d := some (d, z) } :=
 fact_pure rfl hlt (by intro c h; cases h) fun s a w F μ he hh hs => by
  cases he with
  | cons h1 _ => cases hh with
   | cons h2 _ =>
    obtain ⟨b, base, tot, hm', hv⟩ := rv_ptr (evalE_ok hs h1)
    rcases hs.inv.obj o _ h2 with ⟨k1, k2, k3⟩ | ⟨b', base', tot', e, cs, k1, k2, k3, k4, k5, k6, k7⟩
    ·rw [hm'] at k1; cases k1
    ·rw [hm'] at k1; cases k1
     obtain ⟨r1, r2⟩ := ra_at ha k7
     have hl : ((cs.toList.drop base).take c.size).length = c.size := by simp; omega
     rw [hl] at r2
     rw [List.drop_take, List.drop_drop, List.take_take, Nat.min_eq_left (by omega)] at r1
     refine ⟨pack z.isAgg ((cs.toList.drop (base + off)).take z.size), ?_, rv_pack r1⟩
     have hrun := run_loadVar (P := C.P) ht (blk_of k4) (off := base + off) (by simp; omega) (fun hz => by have := ra_length r1; obtain ⟨v, e1, _⟩ := ra_single r1 hz; rw [e1] at this; simpa using this.symm)
     simp only [execOp, hv, Instr.loadAt, Instr.sureAddr, Sem.run_bind, Sem.run_pure, Result.andThen_ok, hrun]
theorem f_loadR {t : TypeId} {z : D} (hlt : Nat.blt d C.n = true) (ht : tyB C.P t = some (z.isAgg, z.size)) :
  Fact C ⟨some d, .load t x, ty, ps, af, gd⟩ { er := [(x, .pref z)], d := some (d, .d z) } :=
 fact_pure rfl hlt (by intro c h; cases h) fun s a w F μ he hh hs => by
  cases he with
  | cons h1 _ =>
   obtain ⟨b, off, c, hv, hF, hb, hl, hr⟩ := rv_pref (evalE_ok hs h1)
   have r1 : RA F μ w (.d z) ((c.drop off).take z.size) := by simpa only [RA] using hr
   refine ⟨pack z.isAgg ((c.drop off).take z.size), ?_, rv_pack r1⟩
   have hrun := run_loadVar (P := C.P) ht hb (off := off) hl (fun hz => by have := ra_length r1; obtain ⟨v, e1, _⟩ := ra_single r1 hz; rw [e1] at this; simpa [AV.size] using this.symm)
   simp only [execOp, hv, Instr.loadAt, Instr.sureAddr, Sem.run_bind, Sem.run_pure, Result.andThen_ok, hrun]
theorem f_store {t : TypeId} {o off n : Nat} {p : List Nat} {c c' z old : AV} (ha : c.at p = some (off, old)) (hp : AV.put c p z = some c') (hsz : z.size = old.size) (ht : tyB C.P t = some (z.isAgg, z.size)) (hm : z.mem = true) :
  Fact C ⟨none, .store t x y, ty, ps, af, gd⟩ { er := [(x, .ptr o off p), (y, z)], hr := [(o, .av c)], hw := [(o, .av c')] } := by
 intro s hpre a w nx Q hs k
 cases hpre.er with
 | cons h1 he => cases he with
  | cons h2 _ => cases hpre.hr with
   | cons h3 _ =>
    obtain ⟨F, μ, hs⟩ := hs
    obtain ⟨b, base, tot, hm', hv⟩ := rv_ptr (evalE_ok hs h1)
    obtain ⟨hz, hagg⟩ := rv_mem (evalE_ok hs h2) hm
    have hzl := ra_length hz
    rcases hs.inv.obj o _ h3 with ⟨k1, k2, k3⟩ | ⟨b', base', tot', e, cs, k1, k2, k3, k4, k5, k6, k7⟩
    ·rw [hm'] at k1; cases k1
    ·rw [hm'] at k1; cases k1
     obtain ⟨r1, r2⟩ := ra_at ha k7
     have hl : ((cs.toList.drop base).take c.size).length = c.size := by simp; omega
     rw [hl] at r2
     have hcs : (a.eval y).cells.size = z.size := by simpa using hzl
     obtain ⟨w', w1, w2, w3, w4, w5, w6, w7⟩ := run_storeVar (P := C.P) (agg := z.isAgg) (by rw [hcs]; exact ht) k4 (off := base + off) (by omega) (ra_leaf hz)
     have hcz := aput_size hp ha hsz
     refine wpIn_skip' (by intro c h; cases h) (w' := w') ?_ (k _ _ ⟨F, μ, ?_⟩)
     ·simp only [execOp, hv, Instr.storeAt, Instr.sureAddr, Sem.run_bind, Sem.run_pure, Result.andThen_ok, w1]
     ·refine sat_turn (c' := c') hs h3 hm' k2 k3 w2 (by simp; omega) (by omega) (fun F' μ' hx => ?_) w3 w4 w5 w6 w7
      have := ra_put hp ha hsz (ra_mono hx k7) (ra_mono hx hz)
      rw [hcz]
      have e1 := splice2 cs.toList (a.eval y).cells.toList base off c.size z.size (by simpa using by omega) (by omega) hzl
      have e2 : ((cs.toList.take (base + off) ++ (a.eval y).cells.toList ++ cs.toList.drop (base + off + (a.eval y).cells.size)).drop base).take c.size =
        ((cs.toList.drop base).take c.size).take off ++ (a.eval y).cells.toList ++ ((cs.toList.drop base).take c.size).drop (off + z.size) := by
       rw [hcs, ← e1]
       have hb : (cs.toList.take base).length = base := by simp; omega
       rw [List.append_assoc, List.drop_left' hb]
       refine List.take_left' ?_
       simp [hcs]; omega
      simp only [] at e2 ⊢
      rw [e2]; exact this
theorem f_box {t : TypeId} (o : Nat) {z : AV} (hlt : Nat.blt d C.n = true) (hm : z.mem = true) :
  Fact C ⟨some d, .box t x, ty, ps, af, gd⟩ { er := [(x, z)], hn := [o], d := some (d, .ptr o 0 []), hw := [(o, .av z)] } := by
 intro s hpre a w nx Q hs k
 cases hpre.er with
 | cons h1 _ => cases hpre.hn with
  | cons h2 _ =>
   obtain ⟨F, μ, hs⟩ := hs
   obtain ⟨hz, _⟩ := rv_mem (evalE_ok hs h1) hm
   have hzl := ra_length hz
   obtain ⟨hn, hx⟩ := sat_new (e := t) (cs := (a.eval x).cells) hs h2 (c := z) (by simp at hzl; omega) (by rw [← hzl, List.take_length]; exact hz)
   refine wpIn_value (by intro c h; cases h) (w' := { w with heap := w.heap.push (.cells (a.eval x).cells t) }) (v := .pointer (some ⟨w.heap.size, 0, none⟩)) ?_ (k _ _ ⟨F, _, sat_put hn (by simpa [Nat.blt_eq] using hlt) ?_⟩)
   ·simp [execOp, Instr.box, newVar, newRow, newObj, Sem.run]
   ·exact ⟨by simp only [RA]; exact ⟨w.heap.size, 0, _, by simp; rfl, rfl⟩, rfl⟩
def zeroB (P : Program) (t : TypeId) : Option Value := (P.info? t).bind (·.zero)
theorem run_zero {P t v} {w : World} (h : zeroB P t = some v) : (zeroValue t).run P w = .ok v w := by
 unfold zeroB at h
 cases hi : P.info? t with
 | none => simp [hi] at h
 | some i =>
  simp only [hi, Option.bind_some] at h
  simp only [zeroValue, typeInfo, program, Sem.run_bind, Sem.run, Result.andThen_ok, hi, Sem.run_pure, h]
theorem f_alloc {t : TypeId} (o : Nat) {z : AV} (hlt : Nat.blt d C.n = true) (hz : ∃ zv, zeroB C.P t = some zv ∧ ∀ F μ w, RA F μ w z zv.cells.toList) :
  Fact C ⟨some d, .alloc t, ty, ps, af, gd⟩ { hn := [o], d := some (d, .ptr o 0 []), hw := [(o, .av z)] } := by
 obtain ⟨zv, hz, hr⟩ := hz
 intro s hpre a w nx Q hs k
 cases hpre.hn with
 | cons h2 _ =>
  obtain ⟨F, μ, hs⟩ := hs
  have hz' : RA F μ w z zv.cells.toList := hr F μ w
  have hzl := ra_length hz'
  obtain ⟨hn, hx⟩ := sat_new (e := t) (cs := zv.cells) hs h2 (c := z) (by simp at hzl; omega) (by rw [← hzl, List.take_length]; exact hz')
  refine wpIn_value (by intro c h; cases h) (w' := { w with heap := w.heap.push (.cells zv.cells t) }) (v := .pointer (some ⟨w.heap.size, 0, none⟩)) ?_ (k _ _ ⟨F, _, sat_put hn (by simpa [Nat.blt_eq] using hlt) ?_⟩)
  ·simp [execOp, Instr.alloc, newVar, newRow, newObj, Sem.run, run_zero hz]
  ·exact ⟨by simp only [RA]; exact ⟨w.heap.size, 0, _, by simp; rfl, rfl⟩, rfl⟩
def arrB (P : Program) (t : TypeId) : Option (Nat × Nat) := match P.underlying t with | some (.array n e) => (tyB P e).map fun p => (n, p.2) | _ => none
theorem run_indexArr {P : Program} {t : TypeId} {n sz b off i : Nat} {k : IntKind} {w : World} (h : arrB P t = some (n, sz)) (hi : i < n) :
  (Instr.indexAt t (.pointer (some ⟨b, off, none⟩)) (.int k i)).run P w = .ok (.pointer (some ⟨b, off + i * sz, none⟩)) w := by
 unfold arrB at h
 cases hu : P.underlying t with
 | none => simp [hu] at h
 | some td =>
  cases td with
  | array m e =>
   simp only [hu] at h
   cases he : tyB P e with
   | none => simp [he] at h
   | some p =>
    obtain ⟨ag, s⟩ := p
    simp only [he, Option.map_some, Option.some.injEq, Prod.mk.injEq] at h
    obtain ⟨rfl, rfl⟩ := h
    have h1 : (0 : Int) ≤ (i : Int) ∧ (i : Int) < (m : Int) := ⟨by omega, by omega⟩
    simp [Instr.indexAt, asIntOf, underlying, program, Sem.run, hu, Instr.sureAddr, h1, run_sizeOf he, addr_add]
    intro hh; omega
  | _ => simp [hu] at h
theorem f_indexAR {t : TypeId} {n sz : Nat} {xs : List D} {z : D} {i : Int} {k : IntKind} (hlt : Nat.blt d C.n = true) (ht : arrB C.P t = some (n, sz)) (h0 : 0 ≤ i) (hi : xs[i.toNat]? = some z) :
  Fact C ⟨some d, .indexAddr t x y, ty, ps, af, gd⟩ { er := [(x, .pref (.arr sz n xs)), (y, .d (.val (.int k i)))], d := some (d, .pref z) } :=
 fact_pure rfl hlt (by intro c h; cases h) fun s a w F μ he hh hs => by
  cases he with
  | cons h1 he => cases he with
   | cons h2 _ =>
    obtain ⟨b, off, c, hv, hF, hb, hl, hr⟩ := rv_pref (evalE_ok hs h1)
    have hy := rv_val (evalE_ok hs h2)
    obtain ⟨j, rfl⟩ := Int.eq_ofNat_of_zero_le h0
    simp only [Rep, D.size] at hr hl
    simp only [Int.toNat_natCast] at hi
    obtain ⟨r1, r2⟩ := repEach_get hr.2 hi
    have hlen : ((c.drop off).take (n * sz)).length = n * sz := by simp; omega
    rw [hlen] at r2
    rw [List.drop_take, List.drop_drop, List.take_take, Nat.min_eq_left (by omega)] at r1
    have hj : j < n := by have := (List.getElem?_eq_some_iff.1 hi).1; omega
    have hzs : z.size = sz := by have := rep_length r1; simp at this; omega
    refine ⟨.pointer (some ⟨b, off + j * sz, none⟩), ?_, ?_⟩
    ·simp only [execOp, hv, hy, Sem.run_bind, run_indexArr ht hj, Result.andThen_ok, Sem.run_pure]
    ·exact ⟨by simp only [RA]; exact ⟨b, off + j * sz, c, rfl, hF, hb, by omega, by rw [hzs]; exact r1⟩, rfl⟩
def slB (P : Program) (t : TypeId) : Option Nat := match P.underlying t with | some (.slice e) => (tyB P e).map (·.2) | _ => none
theorem run_indexSl {P : Program} {t : TypeId} {n sz b off i cap : Nat} {k : IntKind} {w : World} (h : slB P t = some sz) (hi : i < n) :
  (Instr.indexAt t (.slice (some ⟨b, off, none⟩) n cap) (.int k i)).run P w = .ok (.pointer (some ⟨b, off + i * sz, none⟩)) w := by
 unfold slB at h
 cases hu : P.underlying t with
 | none => simp [hu] at h
 | some td =>
  cases td with
  | slice e =>
   simp only [hu] at h
   cases he : tyB P e with
   | none => simp [he] at h
   | some p =>
    obtain ⟨ag, s⟩ := p
    simp only [he, Option.map_some, Option.some.injEq] at h
    subst h
    have h1 : (0 : Int) ≤ (i : Int) ∧ (i : Int) < (n : Int) := ⟨by omega, by omega⟩
    simp [Instr.indexAt, asIntOf, underlying, program, Sem.run, hu, h1, run_sizeOf he, addr_add]
    intro hh; omega
  | _ => simp [hu] at h
theorem f_indexS {t : TypeId} {sz : Nat} {xs : List D} {z : D} {i : Int} {k : IntKind} (hlt : Nat.blt d C.n = true) (ht : slB C.P t = some sz) (h0 : 0 ≤ i) (hi : xs[i.toNat]? = some z) :
  Fact C ⟨some d, .indexAddr t x y, ty, ps, af, gd⟩ { er := [(x, .d (.sl sz xs)), (y, .d (.val (.int k i)))], d := some (d, .pref z) } :=
 fact_pure rfl hlt (by intro c h; cases h) fun s a w F μ he hh hs => by
  cases he with
  | cons h1 he => cases he with
   | cons h2 _ =>
    have hx := (evalE_ok hs h1)
    have hy := rv_val (evalE_ok hs h2)
    obtain ⟨j, rfl⟩ := Int.eq_ofNat_of_zero_le h0
    simp only [Int.toNat_natCast] at hi
    have hj := (List.getElem?_eq_some_iff.1 hi).1
    obtain ⟨hx1, hx2⟩ := hx
    simp only [RA, Rep] at hx1
    obtain ⟨ad, cap, e1, e2, e3⟩ := hx1
    have hv : a.eval x = .slice ad xs.length cap := by
     have := cells_single (v := a.eval x) hx2
     rw [e1] at this; simpa using this.symm
    rcases e3 with rfl | ⟨b, off, c, rfl, hF, hb, hl, hr⟩
    ·simp at hj
    ·obtain ⟨r1, r2⟩ := repEach_get hr hi
     have hlen : ((c.drop off).take (xs.length * sz)).length = xs.length * sz := by simp; omega
     rw [hlen] at r2
     rw [List.drop_take, List.drop_drop, List.take_take, Nat.min_eq_left (by omega)] at r1
     have hzs : z.size = sz := by have := rep_length r1; simp at this; omega
     refine ⟨.pointer (some ⟨b, off + j * sz, none⟩), ?_, ?_⟩
     ·simp only [execOp, hv, hy, Sem.run_bind, run_indexSl ht hj, Result.andThen_ok, Sem.run_pure]
     ·exact ⟨by simp only [RA]; exact ⟨b, off + j * sz, c, rfl, hF, hb, by omega, by rw [hzs]; exact r1⟩, rfl⟩
end
end Bd
