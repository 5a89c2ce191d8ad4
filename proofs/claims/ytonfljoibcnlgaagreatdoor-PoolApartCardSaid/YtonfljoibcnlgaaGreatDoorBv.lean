import Derived.Test.YtonfljoibcnlgaaGreatDoorBu
namespace Bd
open Go
mutual
theorem ra_shiftG {F : Nat → Prop} {μ μ' : Mu} {w : World} {g : Nat → Nat} (hm : ∀ o p, μ o = some p → μ' (g o) = some p) : ∀ {x : AV} {cs : List Value}, RA F μ w x cs → RA F μ' w (x.ren g) cs
 | .d x, cs, hr => by simp only [AV.ren, RA] at *; exact hr
 | .st xs, cs, hr => by simp only [AV.ren, RA] at *; exact ras_shiftG hm hr
 | .ptr o off p, cs, hr => by simp only [AV.ren, RA] at *; obtain ⟨b, base, tot, h1, h2⟩ := hr; exact ⟨b, base, tot, hm _ _ h1, h2⟩
 | .slc o off len sz, cs, hr => by
  simp only [AV.ren, RA] at *
  rcases hr with ⟨⟨p, h1⟩, h2⟩ | ⟨b, base, tot, cap, h1, h2⟩
  ·exact .inl ⟨⟨p, hm _ _ h1⟩, h2⟩
  ·exact .inr ⟨b, base, tot, cap, hm _ _ h1, h2⟩
 | .fn f first caps, cs, hr => by simp only [AV.ren, RA] at *; obtain ⟨fs, vs, h0, h1, h2⟩ := hr; exact ⟨fs, vs, h0, rac_shiftG hm h1, rac_shiftG hm h2⟩
 | .pref x, cs, hr => by simp only [AV.ren, RA] at *; exact hr
 | .res xs, cs, hr => by simp only [RA] at hr
 | .yld o, cs, hr => by simp only [AV.ren, RA] at *; obtain ⟨b, base, tot, h1, h2⟩ := hr; exact ⟨b, base, tot, hm _ _ h1, h2⟩
 | .junk, cs, hr => by simp only [RA] at hr
theorem ras_shiftG {F : Nat → Prop} {μ μ' : Mu} {w : World} {g : Nat → Nat} (hm : ∀ o p, μ o = some p → μ' (g o) = some p) : ∀ {xs : List AV} {cs : List Value}, RAs F μ w xs cs → RAs F μ' w (rens g xs) cs
 | [], cs, hr => hr
 | x :: xs, cs, hr => by simp only [rens, RAs] at *; obtain ⟨c1, c2, h0, h1, h2⟩ := hr; exact ⟨c1, c2, h0, ra_shiftG hm h1, ras_shiftG hm h2⟩
theorem rac_shiftG {F : Nat → Prop} {μ μ' : Mu} {w : World} {g : Nat → Nat} (hm : ∀ o p, μ o = some p → μ' (g o) = some p) : ∀ {xs : List AV} {vs : List Value}, RAc F μ w xs vs → RAc F μ' w (rens g xs) vs
 | [], vs, hr => hr
 | x :: xs, vs, hr => by simp only [rens, RAc] at *; obtain ⟨v, vs', h0, h1, h2, h3⟩ := hr; exact ⟨v, vs', h0, ra_shiftG hm h1, by rw [h2, isAgg_ren], rac_shiftG hm h3⟩
end
theorem rv_shiftG {F : Nat → Prop} {μ μ' : Mu} {w : World} {g : Nat → Nat} (hm : ∀ o p, μ o = some p → μ' (g o) = some p) {x : AV} {v : Value} (hr : RV F μ w x v) : RV F μ' w (x.ren g) v := by
 cases x with
 | res xs => obtain ⟨vs, h1, h2⟩ := hr; exact ⟨vs, h1, rac_shiftG hm h2⟩
 | junk => trivial
 | _ => exact ⟨ra_shiftG hm hr.1, by rw [hr.2]; exact (isAgg_ren _ _).symm⟩
def renHeap (g : Nat → Nat) (h : Heap) : Heap := h.map fun p => (g p.1, p.2.ren g)
theorem renHeap_get {g : Nat → Nat} {h : Heap} (hi : ∀ o o', h.has o = true → h.has o' = true → g o = g o' → o = o') : ∀ o, h.has o = true → Heap.get (renHeap g h) (g o) = (h.get o).map (·.ren g) := by
 have key : ∀ (l : Heap) (o : Nat), (∀ q, l.has q = true → g q = g o → q = o) → Heap.get (renHeap g l) (g o) = (l.get o).map (·.ren g) := by
  intro l
  induction l with
  | nil => intro o _; rfl
  | cons p l ih =>
   intro o hq
   obtain ⟨i, c⟩ := p
   show Heap.get ((g i, c.ren g) :: renHeap g l) (g o) = _
   rw [heap_get_cons, heap_get_cons]
   by_cases e : i = o
   ·subst e; simp
   ·rw [if_neg e, if_neg (fun h => e (hq i (by simp [Heap.has]) h))]
    exact ih o fun q h1 h2 => hq q (by simp [Heap.has, h1]) h2
 exact fun o ho => key h o fun q h1 h2 => hi q o h1 ho h2
theorem renHeap_out {g : Nat → Nat} : ∀ {h : Heap} {q : Nat}, Heap.get (renHeap g h) q ≠ none → ∃ o, h.has o = true ∧ g o = q
 | [], q, hq => absurd rfl hq
 | (i, c) :: h, q, hq => by
  have hq : Heap.get ((g i, c.ren g) :: renHeap g h) q ≠ none := hq
  rw [heap_get_cons] at hq
  by_cases e : g i = q
  ·exact ⟨i, by simp [Heap.has], e⟩
  ·rw [if_neg e] at hq
   obtain ⟨o, h1, h2⟩ := renHeap_out hq
   exact ⟨o, by simp [Heap.has, h1], h2⟩
def openB (g : Nat → Nat) (args : List AV) (hp0 hp1 : Heap) : Bool :=
 refsIns hp0 args && (hp0.all fun p => hoRefs hp0 p.2) && (hp0.all fun p => hp1.has p.1) && injB g hp1
def newIds (g : Nat → Nat) (hp0 hp1 : Heap) : List Nat := (hp1.filter fun p => !hp0.has p.1).map fun p => g p.1
theorem acallF_open {P : Program} {gs : List (Nat × D)} {f : FuncId} {args : List AV} {r : AV} {hp0 hp1 : Heap} (g : Nat → Nat) (hB : openB g args hp0 hp1 = true) (hlive : ∀ p ∈ hp0, p.2 ≠ .dead)
  (h : ACall P gs f args hp0 (fun r' hp' => r' = r ∧ hp' = hp1)) : ACallF P gs f (rens g args) (renHeap g hp0) (newIds g hp0 hp1) (r.ren g) (renHeap g hp1) := by
 simp only [openB, Bool.and_eq_true, List.all_eq_true] at hB
 obtain ⟨⟨⟨b1, b2⟩, b3⟩, b4⟩ := hB
 have ginj := injB_spec b4
 have h01 : ∀ o, hp0.has o = true → hp1.has o = true := fun o ho => by
  obtain ⟨c, hc⟩ := has_mem ho; exact b3 _ hc
 have hlive' : ∀ o c, hp0.get o = some c → c ≠ .dead := fun o c hc => by
  have hm : ∀ (l : Heap), l.get o = some c → (o, c) ∈ l := by
   intro l
   induction l with
   | nil => intro h; cases h
   | cons p l ih =>
    intro h
    obtain ⟨i, ci⟩ := p
    rw [heap_get_cons] at h
    by_cases e : i = o
    ·subst e; rw [if_pos rfl] at h; cases h; simp
    ·rw [if_neg e] at h; exact List.mem_cons_of_mem _ (ih h)
  exact hlive _ (hm _ hc)
 intro hp hhas hno F μ may w vs hinv hargs hgl hnew hap
 have hno := heapNo_iff.1 hno
 have hhas := heapHas_iff.1 hhas
 have hFlt : ∀ b, F b → b < w.heap.size := fun b hb => by obtain ⟨c, hc⟩ := hinv.fro b hb; exact blk_lt hc
 have hin : ∀ o c, (o, c) ∈ hp0 → hp.get (g o) = some (c.ren g) := fun o c hm => hhas (g o, c.ren g) (List.mem_map.2 ⟨(o, c), hm, rfl⟩)
 have getmem : ∀ {l : Heap} {o : Nat} {c : HO}, l.get o = some c → (o, c) ∈ l := by
  intro l
  induction l with
  | nil => intro o c h; cases h
  | cons p l ih =>
   intro o c h
   obtain ⟨i, ci⟩ := p
   rw [heap_get_cons] at h
   by_cases e : i = o
   ·subst e; rw [if_pos rfl] at h; cases h; simp
   ·rw [if_neg e] at h; exact List.mem_cons_of_mem _ (ih h)
 let μ0 : Mu := fun o => if hp0.has o = true then μ (g o) else none
 let may0 : Nat → Prop := fun b => w.heap.size ≤ b ∨ ∃ o base tot, hp0.has o = true ∧ μ (g o) = some (.at b base tot)
 have hm0 : ∀ o, hp0.get o ≠ none → ∀ p, μ (g o) = some p → μ0 o = some p := fun o ho p hp => by
  show (if _ then _ else _) = _
  rw [if_pos (heap_has.2 ho)]; exact hp
 have hm0' : ∀ o p, μ0 o = some p → hp0.has o = true ∧ μ (g o) = some p := fun o p hp => by
  have hp : (if hp0.has o = true then μ (g o) else none) = some p := hp
  split at hp
  ·exact ⟨by assumption, hp⟩
  ·cases hp
 have place : ∀ q c b base tot, hp.get q = some c → c ≠ .dead → μ q = some (.at b base tot) → ¬ F b ∧ may b ∧ b < w.heap.size := fun q c b base tot hq hd hm => by
  have := hinv.obj q c hq
  cases c with
  | av x =>
   rcases this with ⟨k1, _⟩ | ⟨b', ba, tt, el, cs, k1, k2, k3, k4, _⟩
   ·rw [hm] at k1; cases k1
   ·rw [hm] at k1; cases k1; exact ⟨k2, k3, (Array.getElem?_eq_some_iff.1 k4).1⟩
  | raw ob => obtain ⟨b', ba, tt, k1, k2, k3, k4⟩ := this; rw [hm] at k1; cases k1; exact ⟨k2, k3, (Array.getElem?_eq_some_iff.1 k4).1⟩
  | dead => exact absurd rfl hd
 have rendead : ∀ c : HO, c ≠ .dead → c.ren g ≠ .dead := fun c hc => by cases c <;> simp_all [HO.ren]
 have inplace : ∀ o b base tot, hp0.has o = true → μ (g o) = some (.at b base tot) → ¬ F b ∧ may b ∧ b < w.heap.size := fun o b base tot ho hm => by
  obtain ⟨c, hc⟩ := Option.ne_none_iff_exists'.1 (heap_has.1 ho)
  exact place (g o) _ b base tot (hin o c (getmem hc)) (rendead c (hlive' o c hc)) hm
 have hstart : Inv F μ0 may0 hp0 w := by
  refine ⟨hinv.fro, fun o c hc => ?_, fun o o' b ba t ba' t' c c' h1 h2 h3 h4 h5 h6 => ?_, fun o ho => ?_⟩
  ·have hne : hp0.get o ≠ none := by rw [hc]; simp
   have hx := hinv.obj (g o) _ (hin o c (getmem hc))
   cases c with
   | av x =>
    have hrx : x.refsIn hp0 = true := b2 _ (getmem hc)
    rcases hx with ⟨k1, k2, k3⟩ | ⟨b, base, tot, e, cs, k1, k2, k3, k4, k5, k6, k7⟩
    ·exact .inl ⟨hm0 o hne _ k1, by rw [← size_ren g x]; exact k2, ra_ren hm0 k3 hrx⟩
    ·exact .inr ⟨b, base, tot, e, cs, hm0 o hne _ k1, k2, .inr ⟨o, base, tot, heap_has.2 hne, k1⟩, k4, k5, by rw [← size_ren g x]; exact k6, ra_ren hm0 (by rw [← size_ren g x]; exact k7) hrx⟩
   | raw ob => obtain ⟨b, base, tot, k1, k2, k3, k4⟩ := hx; exact ⟨b, base, tot, hm0 o hne _ k1, k2, .inr ⟨o, base, tot, heap_has.2 hne, k1⟩, k4⟩
   | dead => exact absurd rfl (hlive' o _ hc)
  ·obtain ⟨m1, e1⟩ := hm0' _ _ h5
   obtain ⟨m2, e2⟩ := hm0' _ _ h6
   exact ginj o o' (h01 _ m1) (h01 _ m2) (hinv.apart (g o) (g o') b ba t ba' t' _ _ (hin o c (getmem h1)) (hin o' c' (getmem h2)) (rendead c h3) (rendead c' h4) e1 e2)
  ·show (if _ then _ else _) = _
   rw [if_neg (fun e => heap_has.1 e ho)]
 refine (h F μ0 may0 w vs hstart (rac_ren hm0 hargs b1) hgl (fun b hb => .inl hb) (fun b hb hx => ?_)).mono ?_
 ·rcases hx with hx | ⟨o, base, tot, ho, hm⟩
  ·have := hFlt b hb; omega
  ·exact (inplace o b base tot ho hm).1 hb
 rintro e w' ⟨v, r', hp', F', μ', rfl, ⟨rfl, rfl⟩, hext, hF', hinv', hrv, hfr⟩
 classical
 let μ'' : Mu := fun q => if hq : ∃ o, hp'.has o = true ∧ g o = q then μ' hq.choose else μ q
 have mu1 : ∀ k, hp'.has k = true → μ'' (g k) = μ' k := fun k hk => by
  have hq : ∃ o, hp'.has o = true ∧ g o = g k := ⟨k, hk, rfl⟩
  show (if hq : _ then _ else _) = _
  rw [dif_pos hq, ginj _ k hq.choose_spec.1 hk hq.choose_spec.2]
 have mu2 : ∀ q, (¬ ∃ o, hp'.has o = true ∧ g o = q) → μ'' q = μ q := fun q hq => dif_neg hq
 have hnewid : ∀ k, hp'.has k = true → hp0.has k = false → hp.get (g k) = none := fun k hk h0 => by
  obtain ⟨c, hc⟩ := has_mem hk
  exact hno (g k) (List.mem_map.2 ⟨(k, c), List.mem_filter.2 ⟨hc, by simp [h0]⟩, rfl⟩)
 have hmu : ∀ q p, μ q = some p → μ'' q = some p := fun q p hq => by
  by_cases hx : ∃ o, hp'.has o = true ∧ g o = q
  ·obtain ⟨o, ho, rfl⟩ := hx
   rw [mu1 o ho]
   by_cases h0 : hp0.has o = true
   ·exact hext.mu o p (hm0 o (heap_has.1 h0) p hq)
   ·rw [hinv.dom _ (hnewid o ho (by simpa using h0))] at hq; cases hq
  ·rw [mu2 q hx]; exact hq
 have hmu' : ∀ o p, μ' o = some p → μ'' (g o) = some p := fun o p ho => by
  have hne : hp'.get o ≠ none := fun e => by rw [hinv'.dom o e] at ho; cases ho
  rw [mu1 o (heap_has.2 hne)]; exact ho
 have hext2 : Ext F μ w F' μ'' w' := ⟨hext.fro, hext.kept, hmu⟩
 have hmay : ∀ b, may0 b → may b := fun b hb => hb.elim (hnew b) (fun ⟨o, base, tot, ho, hm⟩ => (inplace o b base tot ho hm).2.1)
 have other : ∀ q c b base tot, hp.get q = some c → c ≠ .dead → (¬ ∃ o, hp'.has o = true ∧ g o = q) → μ q = some (.at b base tot) → ¬ may0 b := fun q c b base tot hq hd hx hm hb => by
  rcases hb with hb | ⟨o, ba, tt, ho, hmo⟩
  ·have := (place q c b base tot hq hd hm).2.2; omega
  ·obtain ⟨c0, hc0⟩ := Option.ne_none_iff_exists'.1 (heap_has.1 ho)
   exact hx ⟨o, h01 o ho, hinv.apart (g o) q b ba tt base tot _ _ (hin o c0 (getmem hc0)) hq (rendead c0 (hlive' o c0 hc0)) hd hmo hm⟩
 have split : ∀ q c, Heap.get (renHeap g hp' ++ hp) q = some c → (∃ k c0, q = g k ∧ hp'.get k = some c0 ∧ c = c0.ren g) ∨ (hp.get q = some c ∧ ¬ ∃ o, hp'.has o = true ∧ g o = q) := fun q c hc => by
  rw [heap_get_append] at hc
  by_cases hx : ∃ o, hp'.has o = true ∧ g o = q
  ·obtain ⟨o, ho, rfl⟩ := hx
   rw [renHeap_get ginj o ho] at hc
   obtain ⟨c0, hc0⟩ := Option.ne_none_iff_exists'.1 (heap_has.1 ho)
   rw [hc0] at hc; simp at hc
   exact .inl ⟨o, c0, rfl, hc0, hc.symm⟩
  ·have hg : Heap.get (renHeap g hp') q = none := by
    cases hg : Heap.get (renHeap g hp') q with
    | none => rfl
    | some c1 => exact absurd (renHeap_out (by rw [hg]; simp)) hx
   rw [hg] at hc; simp at hc
   exact .inr ⟨hc, hx⟩
 have mine : ∀ k c0 b ba t, hp'.get k = some c0 → c0 ≠ .dead → μ' k = some (.at b ba t) → may0 b := fun k c0 b ba t hk hd hm => by
  have := hinv'.obj k c0 hk
  cases c0 with
  | av x =>
   rcases this with ⟨k1, _⟩ | ⟨b1, ba1, t1, e, cs, k1, k2, k3, _⟩
   ·rw [hm] at k1; cases k1
   ·rw [hm] at k1; cases k1; exact k3
  | raw ob => obtain ⟨b1, ba1, t1, k1, k2, k3, _⟩ := this; rw [hm] at k1; cases k1; exact k3
  | dead => exact absurd rfl hd
 have notF : ∀ b, ¬ F b → ¬ may0 b → ¬ F' b := fun b h1 h2 h3 => (hF' b h3).elim h1 h2
 refine ⟨v, _, _, F', μ'', rfl, ⟨rfl, rfl⟩, hext2, fun b hb => (hF' b hb).imp id (hmay b), ⟨hinv'.fro, fun o c hc => ?_, fun o o' b ba t ba' t' c c' h1 h2 h3 h4 h5 h6 => ?_, fun o ho => ?_⟩, rv_shiftG hmu' hrv, hfr.weak hmay⟩
 ·rcases split o c hc with ⟨k, c0, rfl, hk, rfl⟩ | ⟨hk, hn⟩
  ·have := hinv'.obj k c0 hk
   have e := mu1 k (heap_has.2 (by rw [hk]; simp))
   cases c0 with
   | av x =>
    rcases this with ⟨k1, k2, k3⟩ | ⟨b, ba, t, e', cs, k1, k2, k3, k4, k5, k6, k7⟩
    ·exact .inl ⟨by rw [e]; exact k1, by rw [size_ren]; exact k2, ra_shiftG hmu' k3⟩
    ·exact .inr ⟨b, ba, t, e', cs, by rw [e]; exact k1, k2, hmay _ k3, k4, k5, by rw [size_ren]; exact k6, by rw [size_ren]; exact ra_shiftG hmu' k7⟩
   | raw ob => obtain ⟨b, ba, t, k1, k2, k3, k4⟩ := this; exact ⟨b, ba, t, by rw [e]; exact k1, k2, hmay _ k3, k4⟩
   | dead => obtain ⟨p, hp⟩ := this; exact ⟨p, by rw [e]; exact hp⟩
  ·have := hinv.obj o c hk
   have e := mu2 o hn
   cases c with
   | av x =>
    rcases this with ⟨k1, k2, k3⟩ | ⟨b, ba, t, e', cs, k1, k2, k3, k4, k5, k6, k7⟩
    ·exact .inl ⟨by rw [e]; exact k1, k2, ra_mono hext2 k3⟩
    ·have hob := other o _ b ba t hk (by simp) hn k1
     exact .inr ⟨b, ba, t, e', cs, by rw [e]; exact k1, notF b k2 hob, k3, by rw [hfr.block b hob]; exact k4, k5, k6, ra_mono hext2 k7⟩
   | raw ob =>
    obtain ⟨b, ba, t, k1, k2, k3, k4⟩ := this
    have hob := other o _ b ba t hk (by simp) hn k1
    exact ⟨b, ba, t, by rw [e]; exact k1, notF b k2 hob, k3, by rw [hfr.block b hob]; exact k4⟩
   | dead => obtain ⟨p, hp⟩ := this; exact ⟨p, by rw [e]; exact hp⟩
 ·rcases split o c h1 with ⟨k, c0, rfl, hk, rfl⟩ | ⟨hk, hn⟩
  ·have d0 : c0 ≠ .dead := fun e => h3 (by rw [e]; rfl)
   rw [mu1 k (heap_has.2 (by rw [hk]; simp))] at h5
   have hb := mine k c0 b ba t hk d0 h5
   rcases split o' c' h2 with ⟨k', c0', rfl, hk', rfl⟩ | ⟨hk', hn'⟩
   ·have d0' : c0' ≠ .dead := fun e => h4 (by rw [e]; rfl)
    rw [mu1 k' (heap_has.2 (by rw [hk']; simp))] at h6
    rw [hinv'.apart k k' b ba t ba' t' c0 c0' hk hk' d0 d0' h5 h6]
   ·rw [mu2 o' hn'] at h6
    exact absurd hb (other o' c' b ba' t' hk' h4 hn' h6)
  ·rw [mu2 o hn] at h5
   have hb := other o c b ba t hk h3 hn h5
   rcases split o' c' h2 with ⟨k', c0', rfl, hk', rfl⟩ | ⟨hk', hn'⟩
   ·have d0' : c0' ≠ .dead := fun e => h4 (by rw [e]; rfl)
    rw [mu1 k' (heap_has.2 (by rw [hk']; simp))] at h6
    exact absurd (mine k' c0' b ba' t' hk' d0' h6) hb
   ·rw [mu2 o' hn'] at h6
    exact hinv.apart o o' b ba t ba' t' c c' hk hk' h3 h4 h5 h6
 ·rw [heap_get_append] at ho
  by_cases hx : ∃ k, hp'.has k = true ∧ g k = o
  ·obtain ⟨k, hk, rfl⟩ := hx
   rw [renHeap_get ginj k hk] at ho
   obtain ⟨c0, hc0⟩ := Option.ne_none_iff_exists'.1 (heap_has.1 hk)
   rw [hc0] at ho; simp at ho
  ·rw [mu2 o hx]
   refine hinv.dom o ?_
   cases hg : Heap.get (renHeap g hp') o with
   | none => rw [hg] at ho; simpa using ho
   | some c1 => exact absurd (renHeap_out (by rw [hg]; simp)) hx
end Bd
