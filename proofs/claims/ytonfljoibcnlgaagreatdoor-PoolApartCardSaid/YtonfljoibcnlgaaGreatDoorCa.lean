import Derived.Test.YtonfljoibcnlgaaGreatDoorBy
namespace Bd
open Go
def ACallG (P : Program) (gs : List (Nat × D)) (f : FuncId) (args : List AV) (hr : List (Nat × HO)) (hn : List Nat) (r : AV) (hw : Heap) : Prop :=
 ∀ hp, HeapHas hp hr → HeapNo hp hn → ∀ F μ may w vs, Inv F μ may hp w → RAc F μ w args vs → Globs gs F w → (∀ b, w.heap.size ≤ b → may b) → (∀ b, F b → ¬ may b) →
  CallsIn Fence.wide 0 P f vs.toArray w (fun e w' => Post (fun r' hp' => r' = r ∧ hp' = hw ++ hp) F μ may w e w' ∧
   ∀ b, b < w.heap.size → (∀ o, Heap.has hr o = true → ∀ base tot, μ o ≠ some (.at b base tot)) → w'.heap[b]? = w.heap[b]?)
theorem acallG_open {P : Program} {gs : List (Nat × D)} {f : FuncId} {args : List AV} {r : AV} {hp0 hp1 : Heap} (g : Nat → Nat) (hB : openB g args hp0 hp1 = true) (hlive : ∀ p ∈ hp0, p.2 ≠ .dead)
  (h : ACall P gs f args hp0 (fun r' hp' => r' = r ∧ hp' = hp1)) : ACallG P gs f (rens g args) (renHeap g hp0) (newIds g hp0 hp1) (r.ren g) (renHeap g hp1) := by
 simp only [openB, Bool.and_eq_true, List.all_eq_true] at hB
 obtain ⟨⟨⟨b1, b2⟩, b3⟩, b4⟩ := hB
 have ginj := injB_spec b4
 have h01 : ∀ o, hp0.has o = true → hp1.has o = true := fun o ho => by
  obtain ⟨c, hc⟩ := has_mem ho; exact b3 _ hc
 have hlive' : ∀ o c, hp0.get o = some c → c ≠ .dead := fun o c hc => by
  have hm : ∀ (l : Heap), l.get o = some c → (o, c) ∈ l := by
   intro l
   induction l with
   | nil => intro h; cases h
   | cons p l ih =>
    intro h
    obtain ⟨i, ci⟩ := p
    rw [heap_get_cons] at h
    by_cases e : i = o
    ·subst e; rw [if_pos rfl] at h; cases h; simp
    ·rw [if_neg e] at h; exact List.mem_cons_of_mem _ (ih h)
  exact hlive _ (hm _ hc)
 intro hp hhas hno F μ may w vs hinv hargs hgl hnew hap
 have hno := heapNo_iff.1 hno
 have hhas := heapHas_iff.1 hhas
 have hFlt : ∀ b, F b → b < w.heap.size := fun b hb => by obtain ⟨c, hc⟩ := hinv.fro b hb; exact blk_lt hc
 have hin : ∀ o c, (o, c) ∈ hp0 → hp.get (g o) = some (c.ren g) := fun o c hm => hhas (g o, c.ren g) (List.mem_map.2 ⟨(o, c), hm, rfl⟩)
 have getmem : ∀ {l : Heap} {o : Nat} {c : HO}, l.get o = some c → (o, c) ∈ l := by
  intro l
  induction l with
  | nil => intro o c h; cases h
  | cons p l ih =>
   intro o c h
   obtain ⟨i, ci⟩ := p
   rw [heap_get_cons] at h
   by_cases e : i = o
   ·subst e; rw [if_pos rfl] at h; cases h; simp
   ·rw [if_neg e] at h; exact List.mem_cons_of_mem _ (ih h)
 let μ0 : Mu := fun o => if hp0.has o = true then μ (g o) else none
 let may0 : Nat → Prop := fun b => w.heap.size ≤ b ∨ ∃ o base tot, hp0.has o = true ∧ μ (g o) = some (.at b base tot)
 have hm0 : ∀ o, hp0.get o ≠ none → ∀ p, μ (g o) = some p → μ0 o = some p := fun o ho p hp => by
  show (if _ then _ else _) = _
  rw [if_pos (heap_has.2 ho)]; exact hp
 have hm0' : ∀ o p, μ0 o = some p → hp0.has o = true ∧ μ (g o) = some p := fun o p hp => by
  have hp : (if hp0.has o = true then μ (g o) else none) = some p := hp
  split at hp
  ·exact ⟨by assumption, hp⟩
  ·cases hp
 have place : ∀ q c b base tot, hp.get q = some c → c ≠ .dead → μ q = some (.at b base tot) → ¬ F b ∧ may b ∧ b < w.heap.size := fun q c b base tot hq hd hm => by
  have := hinv.obj q c hq
  cases c with
  | av x =>
   rcases this with ⟨k1, _⟩ | ⟨b', ba, tt, el, cs, k1, k2, k3, k4, _⟩
   ·rw [hm] at k1; cases k1
   ·rw [hm] at k1; cases k1; exact ⟨k2, k3, (Array.getElem?_eq_some_iff.1 k4).1⟩
  | raw ob => obtain ⟨b', ba, tt, k1, k2, k3, k4⟩ := this; rw [hm] at k1; cases k1; exact ⟨k2, k3, (Array.getElem?_eq_some_iff.1 k4).1⟩
  | dead => exact absurd rfl hd
 have rendead : ∀ c : HO, c ≠ .dead → c.ren g ≠ .dead := fun c hc => by cases c <;> simp_all [HO.ren]
 have inplace : ∀ o b base tot, hp0.has o = true → μ (g o) = some (.at b base tot) → ¬ F b ∧ may b ∧ b < w.heap.size := fun o b base tot ho hm => by
  obtain ⟨c, hc⟩ := Option.ne_none_iff_exists'.1 (heap_has.1 ho)
  exact place (g o) _ b base tot (hin o c (getmem hc)) (rendead c (hlive' o c hc)) hm
 have hstart : Inv F μ0 may0 hp0 w := by
  refine ⟨hinv.fro, fun o c hc => ?_, fun o o' b ba t ba' t' c c' h1 h2 h3 h4 h5 h6 => ?_, fun o ho => ?_⟩
  ·have hne : hp0.get o ≠ none := by rw [hc]; simp
   have hx := hinv.obj (g o) _ (hin o c (getmem hc))
   cases c with
   | av x =>
    have hrx : x.refsIn hp0 = true := b2 _ (getmem hc)
    rcases hx with ⟨k1, k2, k3⟩ | ⟨b, base, tot, e, cs, k1, k2, k3, k4, k5, k6, k7⟩
    ·exact .inl ⟨hm0 o hne _ k1, by rw [← size_ren g x]; exact k2, ra_ren hm0 k3 hrx⟩
    ·exact .inr ⟨b, base, tot, e, cs, hm0 o hne _ k1, k2, .inr ⟨o, base, tot, heap_has.2 hne, k1⟩, k4, k5, by rw [← size_ren g x]; exact k6, ra_ren hm0 (by rw [← size_ren g x]; exact k7) hrx⟩
   | raw ob => obtain ⟨b, base, tot, k1, k2, k3, k4⟩ := hx; exact ⟨b, base, tot, hm0 o hne _ k1, k2, .inr ⟨o, base, tot, heap_has.2 hne, k1⟩, k4⟩
   | dead => exact absurd rfl (hlive' o _ hc)
  ·obtain ⟨m1, e1⟩ := hm0' _ _ h5
   obtain ⟨m2, e2⟩ := hm0' _ _ h6
   exact ginj o o' (h01 _ m1) (h01 _ m2) (hinv.apart (g o) (g o') b ba t ba' t' _ _ (hin o c (getmem h1)) (hin o' c' (getmem h2)) (rendead c h3) (rendead c' h4) e1 e2)
  ·show (if _ then _ else _) = _
   rw [if_neg (fun e => heap_has.1 e ho)]
 refine (h F μ0 may0 w vs hstart (rac_ren hm0 hargs b1) hgl (fun b hb => .inl hb) (fun b hb hx => ?_)).mono ?_
 ·rcases hx with hx | ⟨o, base, tot, ho, hm⟩
  ·have := hFlt b hb; omega
  ·exact (inplace o b base tot ho hm).1 hb
 rintro e w' ⟨v, r', hp', F', μ', rfl, ⟨rfl, rfl⟩, hext, hF', hinv', hrv, hfr⟩
 classical
 let μ'' : Mu := fun q => if hq : ∃ o, hp'.has o = true ∧ g o = q then μ' hq.choose else μ q
 have mu1 : ∀ k, hp'.has k = true → μ'' (g k) = μ' k := fun k hk => by
  have hq : ∃ o, hp'.has o = true ∧ g o = g k := ⟨k, hk, rfl⟩
  show (if hq : _ then _ else _) = _
  rw [dif_pos hq, ginj _ k hq.choose_spec.1 hk hq.choose_spec.2]
 have mu2 : ∀ q, (¬ ∃ o, hp'.has o = true ∧ g o = q) → μ'' q = μ q := fun q hq => dif_neg hq
 have hnewid : ∀ k, hp'.has k = true → hp0.has k = false → hp.get (g k) = none := fun k hk h0 => by
  obtain ⟨c, hc⟩ := has_mem hk
  exact hno (g k) (List.mem_map.2 ⟨(k, c), List.mem_filter.2 ⟨hc, by simp [h0]⟩, rfl⟩)
 have hmu : ∀ q p, μ q = some p → μ'' q = some p := fun q p hq => by
  by_cases hx : ∃ o, hp'.has o = true ∧ g o = q
  ·obtain ⟨o, ho, rfl⟩ := hx
   rw [mu1 o ho]
   by_cases h0 : hp0.has o = true
   ·exact hext.mu o p (hm0 o (heap_has.1 h0) p hq)
   ·rw [hinv.dom _ (hnewid o ho (by simpa using h0))] at hq; cases hq
  ·rw [mu2 q hx]; exact hq
 have hmu' : ∀ o p, μ' o = some p → μ'' (g o) = some p := fun o p ho => by
  have hne : hp'.get o ≠ none := fun e => by rw [hinv'.dom o e] at ho; cases ho
  rw [mu1 o (heap_has.2 hne)]; exact ho
 have hext2 : Ext F μ w F' μ'' w' := ⟨hext.fro, hext.kept, hmu⟩
 have hmay : ∀ b, may0 b → may b := fun b hb => hb.elim (hnew b) (fun ⟨o, base, tot, ho, hm⟩ => (inplace o b base tot ho hm).2.1)
 have other : ∀ q c b base tot, hp.get q = some c → c ≠ .dead → (¬ ∃ o, hp'.has o = true ∧ g o = q) → μ q = some (.at b base tot) → ¬ may0 b := fun q c b base tot hq hd hx hm hb => by
  rcases hb with hb | ⟨o, ba, tt, ho, hmo⟩
  ·have := (place q c b base tot hq hd hm).2.2; omega
  ·obtain ⟨c0, hc0⟩ := Option.ne_none_iff_exists'.1 (heap_has.1 ho)
   exact hx ⟨o, h01 o ho, hinv.apart (g o) q b ba tt base tot _ _ (hin o c0 (getmem hc0)) hq (rendead c0 (hlive' o c0 hc0)) hd hmo hm⟩
 have split : ∀ q c, Heap.get (renHeap g hp' ++ hp) q = some c → (∃ k c0, q = g k ∧ hp'.get k = some c0 ∧ c = c0.ren g) ∨ (hp.get q = some c ∧ ¬ ∃ o, hp'.has o = true ∧ g o = q) := fun q c hc => by
  rw [heap_get_append] at hc
  by_cases hx : ∃ o, hp'.has o = true ∧ g o = q
  ·obtain ⟨o, ho, rfl⟩ := hx
   rw [renHeap_get ginj o ho] at hc
   obtain ⟨c0, hc0⟩ := Option.ne_none_iff_exists'.1 (heap_has.1 ho)
   rw [hc0] at hc; simp at hc
   exact .inl ⟨o, c0, rfl, hc0, hc.symm⟩
  ·have hg : Heap.get (renHeap g hp') q = none := by
    cases hg : Heap.get (renHeap g hp') q with
    | none => rfl
    | some c1 => exact absurd (renHeap_out (by rw [hg]; simp)) hx
   rw [hg] at hc; simp at hc
   exact .inr ⟨hc, hx⟩
 have mine : ∀ k c0 b ba t, hp'.get k = some c0 → c0 ≠ .dead → μ' k = some (.at b ba t) → may0 b := fun k c0 b ba t hk hd hm => by
  have := hinv'.obj k c0 hk
  cases c0 with
  | av x =>
   rcases this with ⟨k1, _⟩ | ⟨b1, ba1, t1, e, cs, k1, k2, k3, _⟩
   ·rw [hm] at k1; cases k1
   ·rw [hm] at k1; cases k1; exact k3
  | raw ob => obtain ⟨b1, ba1, t1, k1, k2, k3, _⟩ := this; rw [hm] at k1; cases k1; exact k3
  | dead => exact absurd rfl hd
 have notF : ∀ b, ¬ F b → ¬ may0 b → ¬ F' b := fun b h1 h2 h3 => (hF' b h3).elim h1 h2
 refine ⟨?_, fun b hb hno' => hfr.block b fun hx => ?_⟩
 rotate_left
 ·rcases hx with hx | ⟨o, base, tot, ho, hm⟩
  ·omega
  ·obtain ⟨c0, hc0⟩ := Option.ne_none_iff_exists'.1 (heap_has.1 ho)
   exact hno' (g o) (heap_has.2 (by rw [renHeap_get (fun q q' h1 h2 => ginj q q' (h01 q h1) (h01 q' h2)) o ho, hc0]; simp)) base tot hm
 refine ⟨v, _, _, F', μ'', rfl, ⟨rfl, rfl⟩, hext2, fun b hb => (hF' b hb).imp id (hmay b), ⟨hinv'.fro, fun o c hc => ?_, fun o o' b ba t ba' t' c c' h1 h2 h3 h4 h5 h6 => ?_, fun o ho => ?_⟩, rv_shiftG hmu' hrv, hfr.weak hmay⟩
 ·rcases split o c hc with ⟨k, c0, rfl, hk, rfl⟩ | ⟨hk, hn⟩
  ·have := hinv'.obj k c0 hk
   have e := mu1 k (heap_has.2 (by rw [hk]; simp))
   cases c0 with
   | av x =>
    rcases this with ⟨k1, k2, k3⟩ | ⟨b, ba, t, e', cs, k1, k2, k3, k4, k5, k6, k7⟩
    ·exact .inl ⟨by rw [e]; exact k1, by rw [size_ren]; exact k2, ra_shiftG hmu' k3⟩
    ·exact .inr ⟨b, ba, t, e', cs, by rw [e]; exact k1, k2, hmay _ k3, k4, k5, by rw [size_ren]; exact k6, by rw [size_ren]; exact ra_shiftG hmu' k7⟩
   | raw ob => obtain ⟨b, ba, t, k1, k2, k3, k4⟩ := this; exact ⟨b, ba, t, by rw [e]; exact k1, k2, hmay _ k3, k4⟩
   | dead => obtain ⟨p, hp⟩ := this; exact ⟨p, by rw [e]; exact hp⟩
  ·have := hinv.obj o c hk
   have e := mu2 o hn
   cases c with
   | av x =>
    rcases this with ⟨k1, k2, k3⟩ | ⟨b, ba, t, e', cs, k1, k2, k3, k4, k5, k6, k7⟩
    ·exact .inl ⟨by rw [e]; exact k1, k2, ra_mono hext2 k3⟩
    ·have hob := other o _ b ba t hk (by simp) hn k1
     exact .inr ⟨b, ba, t, e', cs, by rw [e]; exact k1, notF b k2 hob, k3, by rw [hfr.block b hob]; exact k4, k5, k6, ra_mono hext2 k7⟩
   | raw ob =>
    obtain ⟨b, ba, t, k1, k2, k3, k4⟩ := this
    have hob := other o _ b ba t hk (by simp) hn k1
    exact ⟨b, ba, t, by rw [e]; exact k1, notF b k2 hob, k3, by rw [hfr.block b hob]; exact k4⟩
   | dead => obtain ⟨p, hp⟩ := this; exact ⟨p, by rw [e]; exact hp⟩
 ·rcases split o c h1 with ⟨k, c0, rfl, hk, rfl⟩ | ⟨hk, hn⟩
  ·have d0 : c0 ≠ .dead := fun e => h3 (by rw [e]; rfl)
   rw [mu1 k (heap_has.2 (by rw [hk]; simp))] at h5
   have hb := mine k c0 b ba t hk d0 h5
   rcases split o' c' h2 with ⟨k', c0', rfl, hk', rfl⟩ | ⟨hk', hn'⟩
   ·have d0' : c0' ≠ .dead := fun e => h4 (by rw [e]; rfl)
    rw [mu1 k' (heap_has.2 (by rw [hk']; simp))] at h6
    rw [hinv'.apart k k' b ba t ba' t' c0 c0' hk hk' d0 d0' h5 h6]
   ·rw [mu2 o' hn'] at h6
    exact absurd hb (other o' c' b ba' t' hk' h4 hn' h6)
  ·rw [mu2 o hn] at h5
   have hb := other o c b ba t hk h3 hn h5
   rcases split o' c' h2 with ⟨k', c0', rfl, hk', rfl⟩ | ⟨hk', hn'⟩
   ·have d0' : c0' ≠ .dead := fun e => h4 (by rw [e]; rfl)
    rw [mu1 k' (heap_has.2 (by rw [hk']; simp))] at h6
    exact absurd (mine k' c0' b ba' t' hk' d0' h6) hb
   ·rw [mu2 o' hn'] at h6
    exact hinv.apart o o' b ba t ba' t' c c' hk hk' h3 h4 h5 h6
 ·rw [heap_get_append] at ho
  by_cases hx : ∃ k, hp'.has k = true ∧ g k = o
  ·obtain ⟨k, hk, rfl⟩ := hx
   rw [renHeap_get ginj k hk] at ho
   obtain ⟨c0, hc0⟩ := Option.ne_none_iff_exists'.1 (heap_has.1 hk)
   rw [hc0] at ho; simp at ho
  ·rw [mu2 o hx]
   refine hinv.dom o ?_
   cases hg : Heap.get (renHeap g hp') o with
   | none => rw [hg] at ho; simpa using ho
   | some c1 => exact absurd (renHeap_out (by rw [hg]; simp)) hx
def FlatD (x : D) : Prop := ∀ F F' w w' cs, Rep F w x cs → Rep F' w' x cs
def FlatDs : List D → Prop
 | [] => True
 | x :: xs => FlatD x ∧ FlatDs xs
theorem flat_val {v : Value} : FlatD (.val v) := fun _ _ _ _ _ h => by simp only [Rep] at *; exact h
theorem flatE_rep {F F' : Nat → Prop} {w w' : World} {sz : Nat} : ∀ {fs : List D} {cs : List Value}, (∀ x ∈ fs, FlatD x) → RepEach F w sz fs cs → RepEach F' w' sz fs cs
 | [], cs, _, h => h
 | x :: fs, cs, hf, h => by
  simp only [RepEach] at *
  obtain ⟨c1, c2, rfl, h0, h1, h2⟩ := h
  exact ⟨c1, c2, rfl, h0, hf x (by simp) _ _ _ _ _ h1, flatE_rep (fun y hy => hf y (by simp [hy])) h2⟩
theorem flat_arr {α : Type} {f : α → D} (hf : ∀ a, FlatD (f a)) {sz n : Nat} {xs : List α} : FlatD (.arr sz n (xs.map f)) := fun _ _ _ _ _ h => by
 simp only [Rep] at *
 exact ⟨h.1, flatE_rep (fun x hx => by obtain ⟨a, _, rfl⟩ := List.mem_map.1 hx; exact hf a) h.2⟩
mutual
def NoF : AV → Prop
 | .d x => FlatD x
 | .st xs => NoFs xs
 | .fn _ first caps => NoFs first ∧ NoFs caps
 | .pref _ => False
 | .res xs => NoFs xs
 | _ => True
def NoFs : List AV → Prop
 | [] => True
 | x :: xs => NoF x ∧ NoFs xs
end
mutual
theorem ra_noF {F F' : Nat → Prop} {μ : Mu} {w w' : World} : ∀ {x : AV} {cs : List Value}, NoF x → RA F μ w x cs → RA F' μ w' x cs
 | .d x, cs, hx, hr => by simp only [RA, NoF] at *; exact hx _ _ _ _ _ hr
 | .st xs, cs, hx, hr => by simp only [RA, NoF] at *; exact ras_noF hx hr
 | .ptr .., cs, _, hr => by simp only [RA] at *; exact hr
 | .slc .., cs, _, hr => by simp only [RA] at *; exact hr
 | .fn f first caps, cs, hx, hr => by simp only [RA, NoF] at *; obtain ⟨fs, vs, h0, h1, h2⟩ := hr; exact ⟨fs, vs, h0, rac_noF hx.1 h1, rac_noF hx.2 h2⟩
 | .pref x, cs, hx, hr => by simp only [NoF] at hx
 | .res xs, cs, _, hr => by simp only [RA] at hr
 | .yld _, cs, _, hr => by simp only [RA] at *; exact hr
 | .junk, cs, _, hr => by simp only [RA] at hr
theorem ras_noF {F F' : Nat → Prop} {μ : Mu} {w w' : World} : ∀ {xs : List AV} {cs : List Value}, NoFs xs → RAs F μ w xs cs → RAs F' μ w' xs cs
 | [], cs, _, hr => hr
 | x :: xs, cs, hx, hr => by simp only [RAs, NoFs] at *; obtain ⟨c1, c2, h0, h1, h2⟩ := hr; exact ⟨c1, c2, h0, ra_noF hx.1 h1, ras_noF hx.2 h2⟩
theorem rac_noF {F F' : Nat → Prop} {μ : Mu} {w w' : World} : ∀ {xs : List AV} {vs : List Value}, NoFs xs → RAc F μ w xs vs → RAc F' μ w' xs vs
 | [], vs, _, hr => hr
 | x :: xs, vs, hx, hr => by simp only [RAc, NoFs] at *; obtain ⟨v, vs', h0, h1, h2, h3⟩ := hr; exact ⟨v, vs', h0, ra_noF hx.1 h1, h2, rac_noF hx.2 h3⟩
end
theorem rv_noF {F F' : Nat → Prop} {μ : Mu} {w w' : World} {x : AV} {v : Value} (hx : NoF x) (hr : RV F μ w x v) : RV F' μ w' x v := by
 cases x with
 | res xs => obtain ⟨vs, h1, h2⟩ := hr; exact ⟨vs, h1, rac_noF (by simpa only [NoF] using hx) h2⟩
 | junk => trivial
 | _ => exact ⟨ra_noF hx hr.1, hr.2⟩
def NoFh : Heap → Prop
 | [] => True
 | (_, .av c) :: h => NoF c ∧ NoFh h
 | (_, _) :: h => NoFh h
theorem noFh_get : ∀ {h : Heap} {o : Nat} {c : AV}, NoFh h → h.get o = some (.av c) → NoF c
 | [], _, _, _, h => by cases h
 | (i, c0) :: h, o, c, hn, hg => by
  rw [heap_get_cons] at hg
  by_cases e : i = o
  ·rw [if_pos e] at hg; cases hg; exact hn.1
  ·rw [if_neg e] at hg
   cases c0 with
   | av x => exact noFh_get (h := h) hn.2 hg
   | raw x => exact noFh_get (h := h) hn hg
   | dead => exact noFh_get (h := h) hn hg
def liveB : Heap → Bool
 | [] => true
 | (_, .dead) :: _ => false
 | _ :: h => liveB h
theorem liveB_mem : ∀ {h : Heap}, liveB h = true → ∀ p ∈ h, p.2 ≠ .dead
 | [], _, p, hp => by cases hp
 | (i, c) :: h, hl, p, hp => by
  rcases List.mem_cons.1 hp with rfl | hp
  ·cases c <;> simp_all [liveB]
  ·exact liveB_mem (h := h) (by cases c <;> simp_all [liveB]) p hp
theorem liveB_get : ∀ {h : Heap} {o : Nat} {c : HO}, liveB h = true → h.get o = some c → c ≠ .dead
 | [], _, _, _, h => by cases h
 | (i, c0) :: h, o, c, hl, hg => by
  rw [heap_get_cons] at hg
  by_cases e : i = o
  ·rw [if_pos e] at hg; cases hg; cases c0 <;> simp_all [liveB]
  ·rw [if_neg e] at hg; exact liveB_get (h := h) (by cases c0 <;> simp_all [liveB]) hg
section
variable {P₀ : Program} {ns : Nat} {C : Ctx P₀ ns} {ops : Array Oper} {ty : Nat} {ps : String} {af : Array Edge} {gd : Option (Nat × Bool)} {dst : Option Nat}
def CalOk (C : Ctx P₀ ns) (ce : Callee) (f : FuncId) (first caps : List AV) (er0 : List (Operand × AV)) : Prop :=
 ∀ s a w F μ, SatW C s a w F μ → EnvHas C s.env er0 → ∃ fs vs, RAc F μ w first fs ∧ RAc F μ w caps vs ∧
  ∀ dst as ats ty ps af gd, (execOp a.eval ⟨dst, .call ⟨ce, as, ats⟩, ty, ps, af, gd⟩).run C.P w = .ok (.enter f (fs ++ as.toList.map a.eval ++ vs).toArray) w
theorem cal_f {f : FuncId} (hf : enterB C.P f = true) : CalOk C (.value (.func f)) f [] [] [] := fun s a w F μ _ _ => ⟨[], [], rfl, rfl, fun dst as ats ty ps af gd => by
 have e : as.map a.eval = (as.toList.map a.eval).toArray := by rw [← Array.toList_map]
 simp only [execOp, resolve, Act.eval, Deferred.ofValue, Sem.run_bind, Sem.run_pure, Result.andThen_ok, invoke]
 rw [run_callFunc hf, e]; simp⟩
theorem cal_v {t : Nat} {f : FuncId} {first caps : List AV} (hf : enterB C.P f = true) : CalOk C (.value (.tmp t)) f first caps [(.tmp t, .fn (.func f) first caps)] := fun s a w F μ hs he => by
 cases he with
 | cons h1 _ =>
  obtain ⟨fs, vs, hv, r1, r2⟩ := rv_fn (evalE_ok hs h1)
  refine ⟨fs, vs, r1, r2, fun dst as ats ty ps af gd => ?_⟩
  have e : as.map a.eval = (as.toList.map a.eval).toArray := by rw [← Array.toList_map]
  simp only [execOp, resolve, hv, Deferred.ofValue, Sem.run_bind, Sem.run_pure, Result.andThen_ok, invoke]
  rw [run_callFunc hf, e]; simp
theorem envHas_ap2 {e : Env} : ∀ {l m : List (Operand × AV)}, EnvHas C e (l ++ m) → EnvHas C e l ∧ EnvHas C e m
 | [], _, h => ⟨.nil, h⟩
 | _ :: l, m, h => by
  cases h with
  | cons h1 h2 => exact ⟨.cons h1 (envHas_ap2 h2).1, (envHas_ap2 h2).2⟩
theorem heapHas_app {e : Heap} : ∀ {l m : List (Nat × HO)}, HeapHas e (l ++ m) → HeapHas e l ∧ HeapHas e m
 | [], _, h => ⟨.nil, h⟩
 | _ :: l, m, h => by
  cases h with
  | cons h1 h2 => exact ⟨.cons h1 (heapHas_app h2).1, (heapHas_app h2).2⟩
def disjB (zs : List (Nat × D)) (hr : List (Nat × HO)) : Bool := hr.all fun p => zs.all fun q => !Nat.beq q.1 p.1
theorem has_deads {hp : Heap} {zs : List (Nat × D)} {hr : List (Nat × HO)} (hd : disjB zs hr = true) (h : HeapHas hp hr) : HeapHas (deads zs ++ hp) hr := heapHas_iff.2 fun p hp' => by
 rw [deads_get, if_neg]
 ·exact heapHas_iff.1 h p hp'
 ·rintro ⟨q, hq, e⟩
  simp only [disjB, List.all_eq_true] at hd
  have := hd p hp' q hq
  rw [e] at this; simp at this
theorem no_deads {hp : Heap} {zs : List (Nat × D)} {hn : List Nat} (hz : ∀ p ∈ zs, hp.get p.1 = some (.av (.d p.2))) (h : HeapNo hp hn) : HeapNo (deads zs ++ hp) hn := heapNo_iff.2 fun o ho => by
 have h0 := heapNo_iff.1 h o ho
 rw [deads_get, if_neg, h0]
 rintro ⟨p, hp', e⟩
 have := hz p hp'
 rw [e, h0] at this; cases this
theorem sat_put? {s : AS} {a : Act} {w : World} {F μ} {x : AV} {v : Value} (h : SatW C s a w F μ) (hlt : dst.all (Nat.blt · C.n) = true) (hv : RV F μ w x v) : SatW C ⟨(dst.map fun d => (d, x)).toList ++ s.env, s.hp, s.dfs⟩ (a.put dst v) w F μ := by
 cases dst with
 | none => exact h
 | some d => exact sat_put h (by simpa [Nat.blt_eq] using hlt) hv
variable {ce : Callee} {f : FuncId} {first caps xs args0 : List AV} {er0 : List (Operand × AV)} {as : Array Operand} {ats : Array TypeId} {r0 r : AV} {hp0 hp1 : Heap} {gs : List (Nat × D)} {hr : List (Nat × HO)} {hn : List Nat} {hw : Heap}
theorem f_callG (g : Nat → Nat) (zs : List (Nat × D)) (hgl : C.globs = gs) (hlt : dst.all (Nat.blt · C.n) = true) (hc : CalOk C ce f first caps er0) (hl : as.toList.length = xs.length) (hm : xs.all AV.mem = true)
  (hB : openB g args0 hp0 hp1 = true) (hlive : liveB hp0 = true) (hdis : disjB zs hr = true) (hz : FrzL zs (first ++ xs ++ caps) (rens g args0)) (hrr : r0.ren g = r) (hhr : renHeap g hp0 = hr) (hhn : newIds g hp0 hp1 = hn) (hhw : renHeap g hp1 ++ deads zs = hw)
  (hA : ACall P₀ gs f args0 hp0 (fun r' hp' => r' = r0 ∧ hp' = hp1)) :
  Fact C ⟨dst, .call ⟨ce, as, ats⟩, ty, ps, af, gd⟩ { er := er0 ++ as.toList.zip xs, hr := hr ++ lives zs, hn := hn, d := dst.map fun d => (d, r), hw := hw } := by
 subst hrr; subst hhr; subst hhn; subst hhw; subst hgl
 have hA := acallF_open g hB (liveB_mem hlive) hA
 intro s hp a w nx Q hs k
 obtain ⟨F, μ, hs⟩ := hs
 obtain ⟨he0, he1⟩ := envHas_ap2 hp.er
 obtain ⟨hh0, hh1⟩ := heapHas_app hp.hr
 obtain ⟨fs, vs, q1, q2, hrun⟩ := hc s a w F μ hs he0
 have hz' : ∀ p ∈ zs, s.hp.get p.1 = some (.av (.d p.2)) := fun p hp' => heapHas_iff.1 hh1 (p.1, .av (.d p.2)) (List.mem_map.2 ⟨p, hp', rfl⟩)
 have h1 := sat_deads hs hz'
 refine ⟨fun f _ => C.fence_fn f, ?_⟩
 rw [Oper.semAt_eq _ _ _ (by intro c h; cases h)]
 have hargs := frzL_ok hs.inv hz' hz (rac_append (rac_append q1 (rac_evals hs hl he1 hm)) q2)
 have hFlt : ∀ b, FF F μ zs b → b < w.heap.size := fun b hb => by obtain ⟨c, hc⟩ := h1.inv.fro b hb; exact blk_lt hc
 have hcall := hA (deads zs ++ s.hp) (has_deads hdis hh0) (no_deads hz' hp.hn) (FF F μ zs) μ (fun b => C.may b ∧ ¬ FF F μ zs b) w (fs ++ as.toList.map a.eval ++ vs) (inv_may h1.inv fun b h1 h2 => ⟨h1, h2⟩) hargs h1.globs
  (fun b hb => ⟨C.new b (Nat.le_trans hs.fr.size hb), fun hF => by have := hFlt b hF; omega⟩) (fun b hb h => h.2 hb)
 rw [hrun]
 refine upon_call h1 hcall fun v r' hp' F' μ' w' hK hs' hrv => ?_
 obtain ⟨rfl, rfl⟩ := hK
 refine k _ _ ⟨F', μ', ?_⟩
 have := sat_put? (dst := dst) hs' hlt hrv
 simpa [FD.upd, List.append_assoc] using this
theorem upon_callB {s : AS} {a : Act} {w : World} {F μ} {vs : List Value} {o : Oper} {nx : Act → World → Prop} {Q : Exit → Act → World → Prop} (zs : List (Nat × D)) (hs : SatW C s a w F μ) (hz' : ∀ p ∈ zs, s.hp.get p.1 = some (.av (.d p.2)))
  (hh0 : HeapHas s.hp hr) (hlive : liveB hr = true) (hin : hr.all (fun p => hw.has p.1) = true) (hr1 : NoF r) (hr2 : NoFh hw)
  (h : CallsIn Fence.wide 0 C.P f vs.toArray w (fun e w' => Post (fun r' hp' => r' = r ∧ hp' = hw ++ (deads zs ++ s.hp)) (FF F μ zs) μ (fun b => C.may b ∧ ¬ FF F μ zs b) w e w' ∧
   ∀ b, b < w.heap.size → (∀ o, Heap.has hr o = true → ∀ base tot, μ o ≠ some (.at b base tot)) → w'.heap[b]? = w.heap[b]?))
  (k : ∀ v μ' w', SatW C ⟨s.env, hw ++ s.hp, s.dfs⟩ a w' F μ' → RV F μ' w' r v → nx (a.put o.dst v) w') :
  o.uponIn C.fence 0 C.P a nx Q (.ok (.enter f vs.toArray) w) := by
 rw [Oper.uponIn_enter]
 refine ⟨(fun h => by rw [C.fence_depth] at h; cases h), callsIn_fence (h.mono ?_)⟩
 rintro e w' ⟨⟨v, r', hp', F', μ', rfl, ⟨rfl, rfl⟩, hext, hF', hinv, hrv, hfr⟩, hframe⟩
 have hsub : ∀ b, F b → F' b := fun b hb => hext.fro b (.inl hb)
 have e0 : Ext F μ w F μ' w' := ⟨fun _ h => h, hext.kept.mono fun b hb => .inl hb, hext.mu⟩
 have hhasw : ∀ o, Heap.has hr o = true → hw.get o ≠ none := fun o ho => by
  obtain ⟨c, hc⟩ := has_mem ho
  exact heap_has.1 (List.all_eq_true.1 hin _ hc)
 have hmu : ∀ o c, s.hp.get o = some c → ∀ p, μ' o = some p → μ o = some p := fun o c hc p hp => by
  have hex : ∃ q, μ o = some q := by
   have := hs.inv.obj o c hc
   cases c with
   | av x => rcases this with ⟨k1, _⟩ | ⟨b, ba, t, e, cs, k1, _⟩ <;> exact ⟨_, k1⟩
   | raw ob => obtain ⟨b, ba, t, k1, _⟩ := this; exact ⟨_, k1⟩
   | dead => exact this
  obtain ⟨q, hq⟩ := hex
  have := hext.mu o q hq
  rw [hp] at this; cases this; exact hq
 have hfrozen : ∀ p ∈ zs, ∀ b base tot, μ p.1 = some (.at b base tot) → F' b := fun p hp b base tot hm => hext.fro b (.inr ⟨p, hp, base, tot, hm⟩)
 have hlook : ∀ o, Heap.get (hw ++ (deads zs ++ s.hp)) o = match hw.get o with | some c => some c | none => if (∃ p ∈ zs, p.1 = o) then some .dead else s.hp.get o := fun o => by
  rw [heap_get_append, deads_get]; cases hw.get o <;> rfl
 have hblk : ∀ o c b base tot, s.hp.get o = some c → c ≠ .dead → hw.get o = none → μ o = some (.at b base tot) → b < w.heap.size → w'.heap[b]? = w.heap[b]? := fun o c b base tot hc hd hn hm hb =>
  hframe b hb fun o' ho' base' tot' hm' => by
   obtain ⟨c', hc'⟩ := Option.ne_none_iff_exists'.1 (heap_has.1 ho')
   have hg : s.hp.get o' = some c' := by
    have hmem : (o', c') ∈ hr := by
     have : ∀ (l : List (Nat × HO)), Heap.get l o' = some c' → (o', c') ∈ l := by
      intro l
      induction l with
      | nil => intro h; cases h
      | cons p l ih =>
       intro h
       obtain ⟨i, ci⟩ := p
       rw [heap_get_cons] at h
       by_cases e : i = o'
       ·subst e; rw [if_pos rfl] at h; cases h; simp
       ·rw [if_neg e] at h; exact List.mem_cons_of_mem _ (ih h)
     exact this _ hc'
    exact heapHas_iff.1 hh0 _ hmem
   have := hs.inv.apart o' o b base' tot' base tot c' c hg hc (liveB_get hlive hc') hd hm' hm
   subst this
   exact hhasw _ ho' hn
 refine k v μ' w' ⟨⟨fun b hb => hinv.fro b (hsub b hb), fun o c hc => ?_, fun o o' b ba t ba' t' c c' h1 h2 h3 h4 h5 h6 => ?_, fun o ho => ?_⟩, envOk_mono e0 hs.env, hs.size, dfsOk_mono hext.mu hs.dfs, hs.fr.trans (hfr.weak fun b h => h.1), hs.f0, fun o p hp => hext.mu o p (hs.base o p hp),
  globs_mono e0.fro e0.kept hs.globs, hs.fm⟩ (rv_noF hr1 hrv)
 ·rw [heap_get_append] at hc
  cases hg : hw.get o with
  | some c0 =>
   rw [hg] at hc; simp only [Option.some_or, Option.some.injEq] at hc; subst hc
   have := hinv.obj o c0 (by rw [hlook, hg])
   cases c0 with
   | av x =>
    have hx := noFh_get hr2 hg
    rcases this with ⟨k1, k2, k3⟩ | ⟨b, ba, t, e, cs, k1, k2, k3, k4, k5, k6, k7⟩
    ·exact .inl ⟨k1, k2, ra_noF hx k3⟩
    ·exact .inr ⟨b, ba, t, e, cs, k1, fun hb => k2 (hsub b hb), k3.1, k4, k5, k6, ra_noF hx k7⟩
   | raw ob => obtain ⟨b, ba, t, k1, k2, k3, k4⟩ := this; exact ⟨b, ba, t, k1, fun hb => k2 (hsub b hb), k3.1, k4⟩
   | dead => exact this
  | none =>
   rw [hg] at hc; simp only [Option.none_or] at hc
   have := hs.inv.obj o c hc
   cases c with
   | av x =>
    rcases this with ⟨k1, k2, k3⟩ | ⟨b, ba, t, e, cs, k1, k2, k3, k4, k5, k6, k7⟩
    ·exact .inl ⟨hext.mu _ _ k1, k2, ra_mono e0 k3⟩
    ·refine .inr ⟨b, ba, t, e, cs, hext.mu _ _ k1, k2, k3, ?_, k5, k6, ra_mono e0 k7⟩
     rw [hblk o _ b ba t hc (by simp) hg k1 (Array.getElem?_eq_some_iff.1 k4).1]; exact k4
   | raw ob =>
    obtain ⟨b, ba, t, k1, k2, k3, k4⟩ := this
    refine ⟨b, ba, t, hext.mu _ _ k1, k2, k3, ?_⟩
    rw [hblk o _ b ba t hc (by simp) hg k1 (Array.getElem?_eq_some_iff.1 k4).1]; exact k4
   | dead => obtain ⟨p, hp⟩ := this; exact ⟨p, hext.mu _ _ hp⟩
 ·rw [heap_get_append] at h1 h2
  have cross : ∀ o o' b ba t ba' t' c c', hw.get o = some c → c ≠ .dead → s.hp.get o' = some c' → hw.get o' = none → c' ≠ .dead → μ' o = some (.at b ba t) → μ' o' = some (.at b ba' t') → o = o' := by
   intro o o' b ba t ba' t' c c' g1 d1 g2 n2 d2 m1 m2
   by_cases hzz : ∃ p ∈ zs, p.1 = o'
   ·exfalso
    obtain ⟨p, hp, rfl⟩ := hzz
    have hF := hfrozen p hp b ba' t' (hmu _ _ g2 _ m2)
    have := hinv.obj o c (by rw [hlook, g1])
    cases c with
    | av x =>
     rcases this with ⟨k1, _⟩ | ⟨b1, ba1, t1, e, cs, k1, k2, _⟩
     ·rw [m1] at k1; cases k1
     ·rw [m1] at k1; cases k1; exact k2 hF
    | raw ob => obtain ⟨b1, ba1, t1, k1, k2, _⟩ := this; rw [m1] at k1; cases k1; exact k2 hF
    | dead => exact d1 rfl
   ·exact hinv.apart o o' b ba t ba' t' c c' (by rw [hlook, g1]) (by rw [hlook, n2]; simp only [hzz, if_false]; exact g2) d1 d2 m1 m2
  cases g1 : hw.get o with
  | some c0 =>
   rw [g1] at h1; simp only [Option.some_or, Option.some.injEq] at h1; subst h1
   cases g2 : hw.get o' with
   | some c1 =>
    rw [g2] at h2; simp only [Option.some_or, Option.some.injEq] at h2; subst h2
    exact hinv.apart o o' b ba t ba' t' c0 c1 (by rw [hlook, g1]) (by rw [hlook, g2]) h3 h4 h5 h6
   | none =>
    rw [g2] at h2; simp only [Option.none_or] at h2
    exact cross o o' b ba t ba' t' c0 c' g1 h3 h2 g2 h4 h5 h6
  | none =>
   rw [g1] at h1; simp only [Option.none_or] at h1
   cases g2 : hw.get o' with
   | some c1 =>
    rw [g2] at h2; simp only [Option.some_or, Option.some.injEq] at h2; subst h2
    exact (cross o' o b ba' t' ba t c1 c g2 h4 h1 g1 h3 h6 h5).symm
   | none =>
    rw [g2] at h2; simp only [Option.none_or] at h2
    exact hs.inv.apart o o' b ba t ba' t' c c' h1 h2 h3 h4 (hmu _ _ h1 _ h5) (hmu _ _ h2 _ h6)
 ·rw [heap_get_append] at ho
  cases g1 : hw.get o with
  | some c0 => rw [g1] at ho; cases ho
  | none =>
   rw [g1] at ho; simp only [Option.none_or] at ho
   refine hinv.dom o ?_
   rw [hlook, g1]
   have : ¬ ∃ p ∈ zs, p.1 = o := fun ⟨p, hp, e⟩ => by have := hz' p hp; rw [e, ho] at this; cases this
   simp only [this, if_false]; exact ho
theorem f_callH (g : Nat → Nat) (zs : List (Nat × D)) (hgl : C.globs = gs) (hlt : dst.all (Nat.blt · C.n) = true) (hc : CalOk C ce f first caps er0) (hl : as.toList.length = xs.length) (hm : xs.all AV.mem = true)
  (hB : openB g args0 hp0 hp1 = true) (hlive : liveB hp0 = true) (hlive2 : liveB hr = true) (hdis : disjB zs hr = true) (hz : FrzL zs (first ++ xs ++ caps) (rens g args0)) (hrr : r0.ren g = r) (hhr : renHeap g hp0 = hr) (hhn : newIds g hp0 hp1 = hn) (hhw : renHeap g hp1 = hw)
  (hin : hr.all (fun p => hw.has p.1) = true) (hr1 : NoF r) (hr2 : NoFh hw) (hA : ACall P₀ gs f args0 hp0 (fun r' hp' => r' = r0 ∧ hp' = hp1)) :
  Fact C ⟨dst, .call ⟨ce, as, ats⟩, ty, ps, af, gd⟩ { er := er0 ++ as.toList.zip xs, hr := hr ++ lives zs, hn := hn, d := dst.map fun d => (d, r), hw := hw } := by
 subst hrr; subst hhr; subst hhn; subst hhw; subst hgl
 have hA := acallG_open g hB (liveB_mem hlive) hA
 intro s hp a w nx Q hs k
 obtain ⟨F, μ, hs⟩ := hs
 obtain ⟨he0, he1⟩ := envHas_ap2 hp.er
 obtain ⟨hh0, hh1⟩ := heapHas_app hp.hr
 obtain ⟨fs, vs, q1, q2, hrun⟩ := hc s a w F μ hs he0
 have hz' : ∀ p ∈ zs, s.hp.get p.1 = some (.av (.d p.2)) := fun p hp' => heapHas_iff.1 hh1 (p.1, .av (.d p.2)) (List.mem_map.2 ⟨p, hp', rfl⟩)
 have h1 := sat_deads hs hz'
 refine ⟨fun f _ => C.fence_fn f, ?_⟩
 rw [Oper.semAt_eq _ _ _ (by intro c h; cases h)]
 have hargs := frzL_ok hs.inv hz' hz (rac_append (rac_append q1 (rac_evals hs hl he1 hm)) q2)
 have hFlt : ∀ b, FF F μ zs b → b < w.heap.size := fun b hb => by obtain ⟨c, hc⟩ := h1.inv.fro b hb; exact blk_lt hc
 have hcall := hA (deads zs ++ s.hp) (has_deads hdis hh0) (no_deads hz' hp.hn) (FF F μ zs) μ (fun b => C.may b ∧ ¬ FF F μ zs b) w (fs ++ as.toList.map a.eval ++ vs) (inv_may h1.inv fun b h1 h2 => ⟨h1, h2⟩) hargs h1.globs
  (fun b hb => ⟨C.new b (Nat.le_trans hs.fr.size hb), fun hF => by have := hFlt b hF; omega⟩) (fun b hb h => h.2 hb)
 rw [hrun]
 refine upon_callB zs hs hz' hh0 hlive2 hin hr1 hr2 hcall fun v μ' w' hs' hrv => k _ _ ⟨F, μ', ?_⟩
 have := sat_put? (dst := dst) hs' hlt hrv
 simpa [FD.upd, List.append_assoc] using this
end
section
variable {P₀ : Program} {ns : Nat} {C : Ctx P₀ ns} {Q : Exit → Act → World → Prop} {s : AS} {ops : Array Oper}
def JQ (C : Ctx P₀ ns) (e : Exit) (s : AS) : Exit → Act → World → Prop := fun e' a w => e' = e ∧ Sat C s a w
theorem jq {e : Exit} : AQ C (JQ C e s) e s := fun _ _ hs => ⟨rfl, hs⟩
theorem aw_join {x : Code} (ex : Exit) (sx : AS) (h1 : AW C x (JQ C ex sx) s) (h2 : AQ C Q ex sx) : AW C x Q s := fun a w hs => wpIn_mono (h1 a w hs) fun e a w ⟨he, hs⟩ => by subst he; exact h2 a w hs
def RS (C : Ctx P₀ ns) (ops : Array Oper) (os : List Oper) (s s' : AS) : Prop := ∀ os2 Q, R C ops os2 s' Q → R C ops (os ++ os2) s Q
theorem R.weak {os : List Oper} {s' : AS} {hp0 : Heap} (g : Nat → Nat) (hb : ∀ o, hp0.get o = none → C.base o = none) (hE : RenEnv g s.env s'.env) (hH : RenHp g s.hp s'.hp)
  (hd : s'.dfs = s.dfs) (hc : weakB g hp0 s' = true) (h : R C ops os s' Q) : R C ops os s Q := fun pre hops a w hs => h pre hops a w (sat_weak g hb hE hH hd hc hs)
def loopF {σ β : Type} (f : σ → Option (σ ⊕ β)) : Nat → σ → Option β
 | 0, _ => none
 | n + 1, z => match f z with
  | none => none
  | some (.inl z') => loopF f n z'
  | some (.inr b) => some b
def Exit.isN : Exit → Bool
 | .normal => true
 | _ => false
theorem aw_loopX {c : Code} {σ β : Type} {f : σ → Option (σ ⊕ β)} (st : σ → AS) (ex : β → Exit) (sx : β → AS) {n : Nat} {z0 : σ} {b : β} (hb : loopF f n z0 = some b) (hne : ∀ b, Exit.isN (ex b) = false)
  (hbody : ∀ z o, f z = some o → AW C c (JQ C (Sum.elim (fun _ => .normal) ex o) (Sum.elim st sx o)) (st z)) (hrest : AQ C Q (ex b) (sx b)) : AW C (.loop c) Q (st z0) := by
 refine aw_loop (σ := Nat × σ) (fun z => st z.2) (fun z => loopF f z.1 z.2 = some b) (fun z => z.1) (n, z0) hb ?_
 rintro ⟨m, z⟩ hz
 cases m with
 | zero => cases hz
 | succ m =>
  simp only [loopF] at hz
  cases hf : f z with
  | none => rw [hf] at hz; cases hz
  | some o =>
   rw [hf] at hz
   refine aw_mono (hbody z o hf) fun e a w ⟨he, hs⟩ => ?_
   cases o with
   | inl z' => subst he; exact ⟨(m, z'), ⟨hz, Nat.lt_succ_self _⟩, hs⟩
   | inr b' =>
    simp only [Option.some.injEq] at hz; subst hz
    have hx := hne b'
    simp only [Sum.elim_inr] at he hs
    subst he
    have := hrest a w hs
    cases hex : ex b' with
    | normal => rw [hex] at hx; cases hx
    | _ => rw [hex] at this; exact this
end
section
variable {P₀ : Program} {ns : Nat} {C : Ctx P₀ ns} {ops : Array Oper} {os : List Oper} {e : Env} {h : Heap} {ds : List Nat} {Q : Exit → Act → World → Prop} {d ty : Nat} {ps : String} {af : Array Edge} {x y : Operand} {u : AV}
theorem R.mv (hx : evalA C e x = some u) (hlt : Nat.blt d C.n = true) (k : R C ops os ⟨(d, u) :: e, h, ds⟩ Q) : R C ops (⟨some d, .move x, ty, ps, af, none⟩ :: os) ⟨e, h, ds⟩ Q := .v (f_move hlt) rfl (.c hx .nil) .nil k
theorem R.as (hx : evalA C e x = some u) (hlt : Nat.blt d C.n = true) (k : R C ops os ⟨(d, u) :: e, h, ds⟩ Q) : R C ops (⟨some d, .assign x, ty, ps, af, none⟩ :: os) ⟨e, h, ds⟩ Q := .v (f_assign hlt) rfl (.c hx .nil) .nil k
theorem R.bi {op : BinOp} {k : IntKind} {a b : Int} {t t' : TypeId} {r : Value} (hx : evalA C e x = some (.d (.val (.int k a)))) (hy : evalA C e y = some (.d (.val (.int k b)))) (hr : binI op k a b = some r) (hl : leafV r = true) (hlt : Nat.blt d C.n = true)
  (kk : R C ops os ⟨(d, .d (.val r)) :: e, h, ds⟩ Q) : R C ops (⟨some d, .binOp op t x y t', ty, ps, af, none⟩ :: os) ⟨e, h, ds⟩ Q := .v (f_binI hlt hr hl) rfl (.c hx (.c hy .nil)) .nil kk
end
end Bd
