import Derived.Test.YtonfljoibcnlgaaGreatDoorBo
namespace Bd
open Go
mutual
inductive Frz (zs : List (Nat × D)) : AV → AV → Prop
 | same (x : AV) : Frz zs x x
 | nil {sz : Nat} : Frz zs (.d (.val (.slice none 0 0))) (.d (.sl sz []))
 | slc {o off len sz n : Nat} {xs : List D} (h : (o, D.arr sz n xs) ∈ zs) (hl : off + len ≤ xs.length) : Frz zs (.slc o off len sz) (.d (.sl sz ((xs.drop off).take len)))
 | all {o len sz n : Nat} {xs : List D} (h : (o, D.arr sz n xs) ∈ zs) (hl : xs.length = len) : Frz zs (.slc o 0 len sz) (.d (.sl sz xs))
 | whole {o sz n : Nat} {xs : List D} (h : (o, D.arr sz n xs) ∈ zs) : Frz zs (.slc o 0 n sz) (.d (.sl sz xs))
 | st {xs : List AV} {ds : List D} (h : FrzD zs xs ds) : Frz zs (.st xs) (.d (.st ds))
inductive FrzD (zs : List (Nat × D)) : List AV → List D → Prop
 | nil : FrzD zs [] []
 | cons {x : AV} {d : D} {xs : List AV} {ds : List D} (h : Frz zs x (.d d)) (k : FrzD zs xs ds) : FrzD zs (x :: xs) (d :: ds)
end
inductive FrzL (zs : List (Nat × D)) : List AV → List AV → Prop
 | nil : FrzL zs [] []
 | cons {x y : AV} {xs ys : List AV} (h : Frz zs x y) (k : FrzL zs xs ys) : FrzL zs (x :: xs) (y :: ys)
def deads (zs : List (Nat × D)) : Heap := zs.map fun p => (p.1, .dead)
def lives (zs : List (Nat × D)) : List (Nat × HO) := zs.map fun p => (p.1, .av (.d p.2))
def FF (F : Nat → Prop) (μ : Mu) (zs : List (Nat × D)) (b : Nat) : Prop := F b ∨ ∃ p ∈ zs, ∃ base tot, μ p.1 = some (.at b base tot)
theorem deads_get (zs : List (Nat × D)) (hp : Heap) (o : Nat) : Heap.get (deads zs ++ hp) o = if (∃ p ∈ zs, p.1 = o) then some .dead else hp.get o := by
 induction zs with
 | nil => simp [deads]
 | cons p zs ih =>
  show Heap.get ((p.1, .dead) :: (deads zs ++ hp)) o = _
  rw [heap_get_cons, ih]
  by_cases e : p.1 = o
  ·simp [e]
  ·by_cases h : ∃ q ∈ zs, q.1 = o
   ·rw [if_neg e, if_pos h, if_pos (by obtain ⟨q, hq, e2⟩ := h; exact ⟨q, by simp [hq], e2⟩)]
   ·rw [if_neg e, if_neg h, if_neg (by rintro ⟨q, hq, e2⟩; rcases List.mem_cons.1 hq with rfl | hq; exact e e2; exact h ⟨q, hq, e2⟩)]
section
variable {F : Nat → Prop} {μ : Mu} {may : Nat → Prop} {hp : Heap} {w : World} {zs : List (Nat × D)}
theorem ext_freeze : Ext F μ w (FF F μ zs) μ w := ⟨fun _ h => .inl h, Kept.refl _ _, fun _ _ h => h⟩
theorem obj_at (hi : Inv F μ may hp w) {o : Nat} {z : D} (h : hp.get o = some (.av (.d z))) {b base tot : Nat} (hm : μ o = some (.at b base tot)) :
  ¬ F b ∧ may b ∧ ∃ cs, blk w b = some cs ∧ cs.length = tot ∧ base + z.size ≤ tot ∧ Rep F w z ((cs.drop base).take z.size) := by
 rcases hi.obj o _ h with ⟨k1, _⟩ | ⟨b', ba, tt, el, cs, k1, k2, k3, k4, k5, k6, k7⟩
 ·rw [hm] at k1; cases k1
 ·rw [hm] at k1; cases k1
  exact ⟨k2, k3, cs.toList, by simp [blk, k4], by simpa using k5, k6, by simpa only [RA, AV.size] using k7⟩
theorem inv_freeze (hi : Inv F μ may hp w) (hz : ∀ p ∈ zs, hp.get p.1 = some (.av (.d p.2))) : Inv (FF F μ zs) μ may (deads zs ++ hp) w := by
 refine ⟨fun b hb => ?_, fun o c hc => ?_, fun o o' b ba tt ba' tt' c c' h1 h2 n1 n2 m1 m2 => ?_, fun o ho => ?_⟩
 ·rcases hb with hb | ⟨p, hp', base, tot, hm⟩
  ·exact hi.fro b hb
  ·obtain ⟨_, _, cs, h1, _⟩ := obj_at hi (hz p hp') hm; exact ⟨cs, h1⟩
 ·rw [deads_get] at hc
  by_cases hd : ∃ p ∈ zs, p.1 = o
  ·rw [if_pos hd] at hc; cases hc
   obtain ⟨p, hp', rfl⟩ := hd
   rcases hi.obj _ _ (hz p hp') with ⟨k1, _⟩ | ⟨b', ba, tt, el, cs, k1, _⟩
   ·exact ⟨_, k1⟩
   ·exact ⟨_, k1⟩
  ·rw [if_neg hd] at hc
   have hne : ∀ b base tot, c ≠ .dead → μ o = some (.at b base tot) → ¬ F b → ¬ FF F μ zs b := fun b base tot hcd hm hF hFF => by
    rcases hFF with h | ⟨p, hp', base', tot', hm'⟩
    ·exact hF h
    ·have := hi.apart p.1 o b base' tot' base tot _ _ (hz p hp') hc (by simp) hcd hm' hm
     exact hd ⟨p, hp', this⟩
   have hob := hi.obj o c hc
   cases c with
   | av x =>
    rcases hob with ⟨k1, k2, k3⟩ | ⟨b', ba, tt, el, cs, k1, k2, k3, k4, k5, k6, k7⟩
    ·exact .inl ⟨k1, k2, ra_mono ext_freeze k3⟩
    ·exact .inr ⟨b', ba, tt, el, cs, k1, hne _ _ _ (by simp) k1 k2, k3, k4, k5, k6, ra_mono ext_freeze k7⟩
   | raw ob => obtain ⟨b', ba, tt, k1, k2, k3, k4⟩ := hob; exact ⟨b', ba, tt, k1, hne _ _ _ (by simp) k1 k2, k3, k4⟩
   | dead => exact hob
 ·rw [deads_get] at h1 h2
  by_cases d1 : ∃ p ∈ zs, p.1 = o
  ·rw [if_pos d1] at h1; cases h1; exact absurd rfl n1
  ·by_cases d2 : ∃ p ∈ zs, p.1 = o'
   ·rw [if_pos d2] at h2; cases h2; exact absurd rfl n2
   ·rw [if_neg d1] at h1; rw [if_neg d2] at h2
    exact hi.apart o o' b ba tt ba' tt' c c' h1 h2 n1 n2 m1 m2
 ·rw [deads_get] at ho
  by_cases hd : ∃ p ∈ zs, p.1 = o
  ·rw [if_pos hd] at ho; cases ho
  ·rw [if_neg hd] at ho; exact hi.dom o ho
theorem repEach_split {G : Nat → Prop} {sz : Nat} : ∀ (n : Nat) {xs : List D} {cs : List Value}, RepEach G w sz xs cs → RepEach G w sz (xs.drop n) (cs.drop (n * sz)) ∧ RepEach G w sz (xs.take n) (cs.take (n * sz))
 | 0, xs, cs, h => by simp only [Nat.zero_mul, List.drop_zero, List.take_zero, RepEach]; exact ⟨h, trivial⟩
 | n + 1, [], cs, h => by simp only [RepEach] at h; subst h; simp [RepEach]
 | n + 1, x :: xs, cs, h => by
  simp only [RepEach] at h
  obtain ⟨c1, c2, rfl, h1, h2, h3⟩ := h
  obtain ⟨k1, k2⟩ := repEach_split n h3
  have e : (n + 1) * sz = c1.length + n * sz := by rw [h1, Nat.add_mul]; omega
  refine ⟨?_, ?_⟩
  ·rw [List.drop_succ_cons, e, ← List.drop_drop, List.drop_left]; exact k1
  ·rw [List.take_succ_cons, e, List.take_append]
   simp only [RepEach]
   refine ⟨c1, c2.take (n * sz), ?_, h1, h2, k2⟩
   simp [List.take_of_length_le]
theorem frz_slc (hi : Inv F μ may hp w) (hz : ∀ p ∈ zs, hp.get p.1 = some (.av (.d p.2))) {o off len sz n : Nat} {xs : List D} (h : (o, D.arr sz n xs) ∈ zs) (hl : off + len ≤ xs.length) {cs : List Value}
  (hr : RA F μ w (.slc o off len sz) cs) : Rep (FF F μ zs) w (.sl sz ((xs.drop off).take len)) cs := by
 have hll : ((xs.drop off).take len).length = len := by rw [List.length_take, List.length_drop]; omega
 simp only [RA] at hr
 simp only [Rep, hll]
 rcases hr with ⟨_, rfl, ad, rfl⟩ | ⟨b, base, tot, cap, hm, hc, ht, rfl⟩
 ·exact ⟨ad, 0, rfl, Nat.le_refl _, .inl (by simp)⟩
 ·obtain ⟨_, _, c, h1, h2, h3, h4⟩ := obj_at hi (hz _ h) hm
  simp only [Rep, D.size] at h3 h4
  obtain ⟨h5, h6⟩ := h4
  have hcap : base + (off + len) * sz ≤ tot := Nat.le_trans (Nat.add_le_add_left (Nat.mul_le_mul_right _ (by omega)) _) ht
  refine ⟨_, cap, rfl, hc, .inr ⟨b, base + off * sz, c, rfl, .inr ⟨_, h, base, tot, hm⟩, h1, by rw [h2]; rw [Nat.add_mul] at hcap; omega, ?_⟩⟩
  have hoff : (off + len) * sz ≤ n * sz := Nat.mul_le_mul_right _ (by omega)
  have h7 := (repEach_split len (repEach_split off (repEach_mono (fun _ h => Or.inl h : ∀ b, F b → FF F μ zs b) (Kept.refl _ _) h6)).1).2
  rw [List.drop_take, List.take_take, List.drop_drop] at h7
  rw [Nat.min_eq_left (by rw [Nat.add_mul] at hoff; omega)] at h7
  exact h7
mutual
theorem frz_ok (hi : Inv F μ may hp w) (hz : ∀ p ∈ zs, hp.get p.1 = some (.av (.d p.2))) {x y : AV} {cs : List Value} (h : Frz zs x y) (hr : RA F μ w x cs) : RA (FF F μ zs) μ w y cs := by
 cases h with
 | same => exact ra_mono ext_freeze hr
 | nil => simp only [RA, Rep] at hr ⊢; exact ⟨none, 0, hr.1, Nat.le_refl _, .inl trivial⟩
 | slc h hl => simp only [RA]; exact frz_slc hi hz h hl hr
 | all h hl =>
  subst hl
  have := frz_slc hi hz h (by omega) hr
  simp only [RA]; rwa [List.drop_zero, List.take_of_length_le (Nat.le_refl _)] at this
 | @whole o sz n xs h =>
  have hl : xs.length = n := by
   rcases hi.obj o _ (hz _ h) with ⟨_, _, k⟩ | ⟨b, base, tot, el, c, _, _, _, _, _, _, k⟩
   ·simp only [RA, Rep] at k; exact k.1
   ·simp only [RA, Rep] at k; exact k.1
  subst hl
  have := frz_slc hi hz h (by omega) hr
  simp only [RA]; rwa [List.drop_zero, List.take_of_length_le (Nat.le_refl _)] at this
 | st h => simp only [RA, Rep] at hr ⊢; exact frzD_ok hi hz h hr
theorem frzD_ok (hi : Inv F μ may hp w) (hz : ∀ p ∈ zs, hp.get p.1 = some (.av (.d p.2))) {xs : List AV} {ds : List D} {cs : List Value} (h : FrzD zs xs ds) (hr : RAs F μ w xs cs) : RepAll (FF F μ zs) w ds cs := by
 cases h with
 | nil => simp only [RAs] at hr; simp only [RepAll]; exact hr
 | cons h k =>
  simp only [RAs] at hr
  obtain ⟨c1, c2, rfl, h1, h2⟩ := hr
  simp only [RepAll]
  exact ⟨c1, c2, rfl, by have := frz_ok hi hz h h1; simpa only [RA] using this, frzD_ok hi hz k h2⟩
end
theorem frz_agg {x y : AV} (h : Frz zs x y) : y.isAgg = x.isAgg := by cases h <;> rfl
theorem frzL_ok (hi : Inv F μ may hp w) (hz : ∀ p ∈ zs, hp.get p.1 = some (.av (.d p.2))) : ∀ {xs ys : List AV} {vs : List Value}, FrzL zs xs ys → RAc F μ w xs vs → RAc (FF F μ zs) μ w ys vs
 | _, _, _, .nil, hr => by simp only [RAc] at *; exact hr
 | _, _, _, .cons h k, hr => by
  simp only [RAc] at hr ⊢
  obtain ⟨v, vs', rfl, h1, h2, h3⟩ := hr
  exact ⟨v, vs', rfl, frz_ok hi hz h h1, by rw [h2, frz_agg h], frzL_ok hi hz k h3⟩
end
end Bd
