import Derived.Test.YtonfljoibcnlgaaGreatDoorBw
namespace Bd
open Go
inductive FrzH (zs : List (Nat × D)) (hp : Heap) : Heap → Prop
 | nil : FrzH zs hp []
 | cons {o : Nat} {x y : AV} {l : Heap} (h : hp.get o = some (.av x)) (hne : (zs.all fun p => !Nat.beq p.1 o) = true) (f : Frz zs x y) (k : FrzH zs hp l) : FrzH zs hp ((o, .av y) :: l)
theorem frzH_get {zs : List (Nat × D)} {hp upd : Heap} (h : FrzH zs hp upd) : ∀ o c, upd.get o = some c → ∃ x y, c = .av y ∧ hp.get o = some (.av x) ∧ (∀ p ∈ zs, p.1 ≠ o) ∧ Frz zs x y := by
 induction h with
 | nil => intro o c h; simp [Heap.get] at h
 | @cons o' x y l h hne f k ih =>
  intro o c hc
  rw [heap_get_cons] at hc
  by_cases e : o' = o
  ·subst e; rw [if_pos rfl] at hc; cases hc
   refine ⟨x, y, rfl, h, fun p hp' e => ?_, f⟩
   have := List.all_eq_true.1 hne p hp'
   rw [e] at this; simp at this
  ·rw [if_neg e] at hc; exact ih o c hc
mutual
theorem frz_size {zs : List (Nat × D)} {x y : AV} (h : Frz zs x y) : y.size = x.size := by
 cases h with
 | same => rfl
 | nil => rfl
 | slc h hl => rfl
 | all h hl => rfl
 | whole h => rfl
 | st h => simp only [AV.size, D.size]; exact frzD_size h
theorem frzD_size {zs : List (Nat × D)} {xs : List AV} {ds : List D} (h : FrzD zs xs ds) : sizes ds = asizes xs := by
 cases h with
 | nil => rfl
 | cons h k =>
  have h1 := frz_size h
  simp only [AV.size] at h1
  simp only [sizes, asizes, h1, frzD_size k]
end
section
variable {P₀ : Program} {ns : Nat} {C : Ctx P₀ ns} {ops : Array Oper} {s : AS} {a : Act} {w : World} {F : Nat → Prop} {μ : Mu} {e e' : Env} {h upd : Heap} {ds : List Nat} {os : List Oper} {Q : Exit → Act → World → Prop}
theorem sat_freezeH (zs : List (Nat × D)) (hz : HeapHas h (lives zs)) (hE : FrzE zs e e') (hU : FrzH zs h upd) (hs : Sat C ⟨e, h, ds⟩ a w) : Sat C ⟨e', upd ++ (deads zs ++ h), ds⟩ a w := by
 obtain ⟨F, μ, hs⟩ := hs
 have hz' : ∀ p ∈ zs, h.get p.1 = some (.av (.d p.2)) := fun p hp' => heapHas_iff.1 hz (p.1, .av (.d p.2)) (List.mem_map.2 ⟨p, hp', rfl⟩)
 have h1 := sat_deads hs hz'
 have split : ∀ o c, Heap.get (upd ++ (deads zs ++ h)) o = some c → (∃ x y, c = .av y ∧ Heap.get (deads zs ++ h) o = some (.av x) ∧ h.get o = some (.av x) ∧ Frz zs x y) ∨ Heap.get (deads zs ++ h) o = some c := fun o c hc => by
  rw [heap_get_append] at hc
  cases hg : upd.get o with
  | none => rw [hg] at hc; simp at hc; exact .inr hc
  | some c' =>
   rw [hg] at hc; simp at hc; subst hc
   obtain ⟨x, y, rfl, k1, k2, k3⟩ := frzH_get hU o c' hg
   refine .inl ⟨x, y, rfl, ?_, k1, k3⟩
   rw [deads_get, if_neg (by rintro ⟨p, hp, e⟩; exact k2 p hp e)]; exact k1
 refine ⟨_, μ, ⟨⟨h1.inv.fro, fun o c hc => ?_, fun o o' b ba t ba' t' c c' g1 g2 g3 g4 g5 g6 => ?_, fun o ho => ?_⟩, fun i y hi => ?_, h1.size, h1.dfs, h1.fr, h1.f0, h1.base, h1.globs, h1.fm⟩⟩
 ·rcases split o c hc with ⟨x, y, rfl, k1, k0, k2⟩ | k1
  ·have hsz := frz_size k2
   rcases h1.inv.obj o _ k1 with ⟨q1, q2, q3⟩ | ⟨b, base, tot, el, cs, q1, q2, q3, q4, q5, q6, q7⟩
   ·rcases hs.inv.obj o _ k0 with ⟨p1, p2, p3⟩ | ⟨b, base, tot, el, cs, p1, _⟩
    ·exact .inl ⟨q1, by rw [hsz]; exact q2, frz_ok hs.inv hz' k2 p3⟩
    ·rw [q1] at p1; cases p1
   ·rcases hs.inv.obj o _ k0 with ⟨p1, p2, p3⟩ | ⟨b', base', tot', el', cs', p1, p2, p3, p4, p5, p6, p7⟩
    ·rw [q1] at p1; cases p1
    ·rw [q1] at p1; cases p1
     rw [q4] at p4; cases p4
     exact .inr ⟨b, base, tot, el, cs, q1, q2, q3, q4, q5, by rw [hsz]; exact q6, by rw [hsz]; exact frz_ok hs.inv hz' k2 p7⟩
  ·exact h1.inv.obj o c k1
 ·have key : ∀ o c, Heap.get (upd ++ (deads zs ++ h)) o = some c → c ≠ .dead → ∃ c1, Heap.get (deads zs ++ h) o = some c1 ∧ c1 ≠ .dead := fun o c hc hd => by
   rcases split o c hc with ⟨x, y, rfl, k1, _, _⟩ | k1
   ·exact ⟨_, k1, by simp⟩
   ·exact ⟨_, k1, hd⟩
  obtain ⟨c1, m1, n1⟩ := key o c g1 g3
  obtain ⟨c2, m2, n2⟩ := key o' c' g2 g4
  exact h1.inv.apart o o' b ba t ba' t' c1 c2 m1 m2 n1 n2 g5 g6
 ·rw [heap_get_append] at ho
  cases hg : upd.get o with
  | none => rw [hg] at ho; simp at ho; exact h1.inv.dom o ho
  | some c' => rw [hg] at ho; simp at ho
 ·obtain ⟨x, hx, hf⟩ := frzE_get hE i y hi
  exact rv_frz hs.inv hz' hf (hs.env i x hx)
theorem aq_freezeH {ex : Exit} (zs : List (Nat × D)) (e' : Env) (upd : Heap) (hz : HeapHas h (lives zs)) (hE : FrzE zs e e') (hU : FrzH zs h upd) (k : AQ C Q ex ⟨e', upd ++ (deads zs ++ h), ds⟩) : AQ C Q ex ⟨e, h, ds⟩ := fun a w hs => k a w (sat_freezeH zs hz hE hU hs)
theorem R.freezeH (zs : List (Nat × D)) (e' : Env) (upd : Heap) (hz : HeapHas h (lives zs)) (hE : FrzE zs e e') (hU : FrzH zs h upd) (k : R C ops os ⟨e', upd ++ (deads zs ++ h), ds⟩ Q) : R C ops os ⟨e, h, ds⟩ Q := fun pre hops a w hs => k pre hops a w (sat_freezeH zs hz hE hU hs)
theorem sat_adoptH {c o sz : Nat} (hn : h.get o = none) (hx : h.get c = some (.av (.d (.val (.slice none 0 0))))) (hs : Sat C ⟨e, h, ds⟩ a w) : Sat C ⟨e, (c, .av (.slc o 0 0 sz)) :: (o, .av (.d (.arr sz 0 []))) :: h, ds⟩ a w := by
 obtain ⟨F, μ, hs⟩ := hs
 obtain ⟨h1, h2⟩ := sat_newNil (sz := sz) hs hn
 have hco : c ≠ o := fun e => by subst e; rw [hn] at hx; cases hx
 have hget : Heap.get ((o, .av (.d (.arr sz 0 []))) :: h) c = some (.av (.d (.val (.slice none 0 0)))) := by rw [heap_get_cons, if_neg (Ne.symm hco)]; exact hx
 have hnew : ∀ cs, RA F (fun i => if i = o then some .nil else μ i) w (.d (.val (.slice none 0 0))) cs → RA F (fun i => if i = o then some .nil else μ i) w (.slc o 0 0 sz) cs := fun cs hr => by
  simp only [RA, Rep] at hr ⊢
  exact .inl ⟨⟨_, by simp only [if_true]; rfl⟩, trivial, none, hr.1⟩
 refine ⟨F, _, ⟨⟨h1.inv.fro, fun q cq hq => ?_, fun q q' b ba t ba' t' cq cq' g1 g2 g3 g4 g5 g6 => ?_, fun q hq => ?_⟩, h1.env, h1.size, h1.dfs, h1.fr, h1.f0, h1.base, h1.globs, h1.fm⟩⟩
 ·rw [heap_get_cons] at hq
  by_cases e1 : c = q
  ·subst e1; rw [if_pos rfl] at hq; cases hq
   rcases h1.inv.obj c _ hget with ⟨q1, q2, q3⟩ | ⟨b, base, tot, el, cs, q1, q2, q3, q4, q5, q6, q7⟩
   ·exact .inl ⟨q1, q2, hnew _ q3⟩
   ·exact .inr ⟨b, base, tot, el, cs, q1, q2, q3, q4, q5, q6, hnew _ q7⟩
  ·rw [if_neg e1] at hq; exact h1.inv.obj q cq hq
 ·have key : ∀ q cq, Heap.get ((c, .av (.slc o 0 0 sz)) :: (o, .av (.d (.arr sz 0 []))) :: h) q = some cq → cq ≠ .dead → ∃ c1, Heap.get ((o, .av (.d (.arr sz 0 []))) :: h) q = some c1 ∧ c1 ≠ .dead := fun q cq hq hd => by
   rw [heap_get_cons] at hq
   by_cases e1 : c = q
   ·subst e1; exact ⟨_, hget, by simp⟩
   ·rw [if_neg e1] at hq; exact ⟨_, hq, hd⟩
  obtain ⟨c1, m1, n1⟩ := key q cq g1 g3
  obtain ⟨c2, m2, n2⟩ := key q' cq' g2 g4
  exact h1.inv.apart q q' b ba t ba' t' c1 c2 m1 m2 n1 n2 g5 g6
 ·rw [heap_get_cons] at hq
  by_cases e1 : c = q
  ·rw [if_pos e1] at hq; cases hq
  ·rw [if_neg e1] at hq; exact h1.inv.dom q hq
theorem aw_adoptH {cd : Code} (c o sz : Nat) (hn : h.get o = none) (hx : h.get c = some (.av (.d (.val (.slice none 0 0))))) (k : AW C cd Q ⟨e, (c, .av (.slc o 0 0 sz)) :: (o, .av (.d (.arr sz 0 []))) :: h, ds⟩) : AW C cd Q ⟨e, h, ds⟩ := fun a w hs => k a w (sat_adoptH hn hx hs)
theorem sat_anew {t o o' off len sz n : Nat} {xs : List D} (hn : h.get o' = none) (hx : e.get t = some (.slc o off len sz)) (ho : h.get o = some (.av (.d (.arr sz n xs)))) (hend : off + len = n) (hs : Sat C ⟨e, h, ds⟩ a w) :
  Sat C ⟨(t, .slc o' 0 len sz) :: e, (o', .av (.d (.arr sz len (xs.drop off)))) :: (o, .dead) :: h, ds⟩ a w := by
 obtain ⟨F, μ, hs⟩ := hs
 obtain ⟨hv1, hv2⟩ := hs.env t _ hx
 have hlen : n - off = len := by omega
 simp only [RA] at hv1
 have putE : ∀ (F' : Nat → Prop) (μ' : Mu) (hp' : Heap), SatW C ⟨e, hp', ds⟩ a w F' μ' → RV F' μ' w (.slc o' 0 len sz) (a.tmps.getD t undef) → SatW C ⟨(t, .slc o' 0 len sz) :: e, hp', ds⟩ a w F' μ' := fun F' μ' hp' h1 hv =>
  ⟨h1.inv, fun i y hi => by
   rw [env_get_cons] at hi
   by_cases e' : t = i
   ·subst e'; rw [if_pos rfl] at hi; cases hi; exact hv
   ·rw [if_neg e'] at hi; exact h1.env i y hi, h1.size, h1.dfs, h1.fr, h1.f0, h1.base, h1.globs, h1.fm⟩
 rcases hs.inv.obj o _ ho with ⟨k1, k2, k3⟩ | ⟨b, base, tot, el, cs, k1, k2, k3, k4, k5, k6, k7⟩
 ·
  rcases hv1 with ⟨hm, rfl, ad, hc⟩ | ⟨b, base, tot, cap, hm, _⟩
  ·have hs1 := sat_deads (zs := [(o, .arr sz n xs)]) hs (by intro p hp; simp at hp; subst hp; exact ho)
   have hoo : Heap.get (deads [(o, D.arr sz n xs)] ++ h) o' = none := by
    rw [deads_get, if_neg, hn]
    rintro ⟨p, hp, e3⟩; simp at hp; subst hp; simp at e3; subst e3; rw [hn] at ho; cases ho
   obtain ⟨h3, _⟩ := sat_newNil (sz := sz) hs1 hoo
   simp only [RA, Rep] at k3
   have hnil : xs.drop off = [] := List.eq_nil_of_length_eq_zero (by rw [List.length_drop, k3.1]; omega)
   rw [hnil]
   exact ⟨_, _, putE _ _ _ h3 ⟨by simp only [RA]; exact .inl ⟨⟨_, by simp only [if_true]; rfl⟩, trivial, ad, hc⟩, hv2⟩⟩
  ·rw [k1] at hm; cases hm
 ·obtain ⟨h3, _⟩ := sat_reseat (o' := o') (off := off) hs ho k1 hn (by omega)
  rw [hlen] at h3
  refine ⟨_, _, putE _ _ _ h3 ⟨?_, hv2⟩⟩
  simp only [RA]
  rcases hv1 with ⟨hm, rfl, ad, hc⟩ | ⟨b', base', tot', cap, hm, h4, h5, hc⟩
  ·exact .inl ⟨⟨_, by simp only [if_true]; rfl⟩, rfl, ad, hc⟩
  ·rw [k1] at hm; cases hm
   refine .inr ⟨b, base + off * sz, tot, cap, by simp only [if_true], h4, ?_, ?_⟩
   ·rw [Nat.zero_add, Nat.add_assoc, ← Nat.add_mul]; exact h5
   ·rw [hc]; simp
theorem aw_anew {c : Code} (t o' : Nat) {o off len sz n : Nat} {xs : List D} (hn : h.get o' = none) (hx : e.get t = some (.slc o off len sz)) (ho : h.get o = some (.av (.d (.arr sz n xs)))) (hend : off + len = n)
  (k : AW C c Q ⟨(t, .slc o' 0 len sz) :: e, (o', .av (.d (.arr sz len (xs.drop off)))) :: (o, .dead) :: h, ds⟩) : AW C c Q ⟨e, h, ds⟩ := fun a w hs => k a w (sat_anew hn hx ho hend hs)
theorem aq_anew {ex : Exit} (t o' : Nat) {o off len sz n : Nat} {xs : List D} (hn : h.get o' = none) (hx : e.get t = some (.slc o off len sz)) (ho : h.get o = some (.av (.d (.arr sz n xs)))) (hend : off + len = n)
  (k : AQ C Q ex ⟨(t, .slc o' 0 len sz) :: e, (o', .av (.d (.arr sz len (xs.drop off)))) :: (o, .dead) :: h, ds⟩) : AQ C Q ex ⟨e, h, ds⟩ := fun a w hs => k a w (sat_anew hn hx ho hend hs)
end
end Bd
